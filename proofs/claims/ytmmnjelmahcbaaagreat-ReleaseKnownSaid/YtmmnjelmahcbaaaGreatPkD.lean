/-
  Texts of the library, one behind the other. Over any program; no condition.
-/
import Derived.ProofKit
import Derived.Carry
import Derived.Deep.Strs
import Derived.Sort.Row
import Derived.Sort.Grow
import Derived.Test.YtmmnjelmahcbaaaGreatProg
import Derived.KernelRfl
import Derived.RangeFuncKeeps
import Derived.RangeFuncRecord
import Derived.Test.YtmmnjelmahcbaaaGreatPkY
import Derived.Test.YtmmnjelmahcbaaaGreatPkC
namespace Go.Aw
set_option linter.unusedSimpArgs false
set_option linter.unusedVariables false
open Go.RowKit

/-- What a value holds, all the way down. -/
inductive Deep (H : List Blk) : V → D → Prop where
  | d (x : D) : Deep H (.d x) x
  | nil : Deep H .nil (.sl [])
  | data (id off len k : Nat) (rows : List (List D)) (h : H[id]? = some (.data k rows)) (hl : off + len ≤ rows.length) : Deep H (.ref id off len) (.sl ((rows.drop off).take len))
  | vrs (id k : Nat) (rs : List (List V)) (ds : List (List D)) (h : H[id]? = some (.vrs k rs)) (hl : ds.length = rs.length) (hk : ∀ (i : Nat) (row : List D), ds[i]? = some row → row.length = k)
      (hr : ∀ (i : Nat) (row : List V) (drow : List D) (j : Nat) (x : V) (y : D), rs[i]? = some row → ds[i]? = some drow → row[j]? = some x → drow[j]? = some y → Deep H x y) : Deep H (.ref id 0 rs.length) (.sl ds)
  | agg (xs : List V) (ds : List D) (hl : ds.length = xs.length) (hr : ∀ (j : Nat) (x : V) (y : D), xs[j]? = some x → ds[j]? = some y → Deep H x y) : Deep H (.agg xs) (.agg ds)
  | tup (xs : List V) (ds : List D) (hl : ds.length = xs.length) (hr : ∀ (j : Nat) (x : V) (y : D), xs[j]? = some x → ds[j]? = some y → Deep H x y) : Deep H (.tup xs) (.tup ds)

/-- All own blocks beside those that are read alone. -/
def allF (E : Env) (F : Nat → Prop) (H : List Blk) (b : Nat) : Prop := F b ∨ own E H b

theorem deep_sound {E : Env} {F : Nat → Prop} {w : World} {H : List Blk} (hr : HR E F w H) {x : V} {d : D} (h : Deep H x d) : ∀ {v : Value}, VR E F w x v → RD (allF E F H) w d v := by
  have up : ∀ {d : D} {v : Value}, RD F w d v → RD (allF E F H) w d v := fun h => h.evo (fun _ h => .inl h) (fun _ _ => rfl)
  induction h with
  | d x => intro v hv; cases hv with | d _ _ h => exact up h
  | nil => intro v hv; cases hv with | nil a => exact .sl0 a 0
  | data id off len k rows hH hl =>
    intro v hv
    cases hv with
    | ref _ _ _ b k' m a cap n hE hm ha hlc hb hc =>
      obtain ⟨h1, h2, h3, h4⟩ := hr.blk _ _ _ hE hH
      dsimp only at h1 h2
      subst h1
      rcases Nat.eq_zero_or_pos len with h0 | hpos
      · subst h0
        rw [List.take_zero]
        exact .sl0 a cap
      · rcases h4 with ⟨h4, _⟩ | ⟨b', cs, t, h4, hw, hsz, hcell⟩
        · cases h4
        · simp only [Option.some.injEq] at h4
          subst h4
          have hlen : ((rows.drop off).take len).length = len := by simp; omega
          rw [ha (.inl hpos)]
          have hget : ∀ (i : Nat) (row : List D), ((rows.drop off).take len)[i]? = some row → i < len ∧ rows[off + i]? = some row := fun i row hi => by
            have hlt := (List.getElem?_eq_some_iff.1 hi).1
            rw [hlen] at hlt
            rw [List.getElem?_take_of_lt hlt, List.getElem?_drop] at hi
            exact ⟨hlt, hi⟩
          have := RD.sl (F := allF E F H) (w := w) b (off * k') cap k' ((rows.drop off).take len) (fun i j => (w.cell? ⟨b, off * k' + (i * k' + j), none⟩).getD undef) (by omega) (.inr ⟨id, _, _, hE, hH, rfl, rfl⟩)
            (fun i row hi => (h3 _ _ (hget i row hi).2).1)
            (fun i j hi hj => by
              have hi' : off + i < rows.length := by omega
              obtain ⟨v, hv, _⟩ := hcell (off + i) rows[off + i] j (rows[off + i][j]'(by rw [(h3 _ _ (List.getElem?_eq_getElem hi')).1]; exact hj)) (List.getElem?_eq_getElem hi') (List.getElem?_eq_getElem _)
              have : w.cell? ⟨b, off * k' + (i * k' + j), none⟩ = some v := by
                rw [show off * k' + (i * k' + j) = (off + i) * k' + j by rw [Nat.add_mul]; omega]
                simp [World.cell?, hw, hv]
              rw [this]; rfl)
            (fun i row j x hi hj => by
              obtain ⟨hi1, hi2⟩ := hget i row hi
              obtain ⟨v, hv, hd⟩ := hcell (off + i) row j x hi2 hj
              have : w.cell? ⟨b, off * k' + (i * k' + j), none⟩ = some v := by
                rw [show off * k' + (i * k' + j) = (off + i) * k' + j by rw [Nat.add_mul]; omega]
                simp [World.cell?, hw, hv]
              rw [this]
              exact up hd)
          rwa [hlen] at this
    | refv _ k' m a hE =>
      rw [List.take_zero]
      exact .sl0 a 0
  | vrs id k rs ds hH hl hk hrr ih =>
    intro v hv
    generalize hn : rs.length = len at hv
    cases hv with
    | ref _ _ _ b k' m a cap n hE hm ha hlc hb hc =>
      obtain ⟨h1, h2, h3, h4⟩ := hr.blk _ _ _ hE hH
      dsimp only at h1 h2
      subst h1
      rcases Nat.eq_zero_or_pos len with h0 | hpos
      · have : ds = [] := List.eq_nil_of_length_eq_zero (by omega)
        subst this
        rw [h0]
        exact .sl0 a cap
      · rcases h4 with ⟨h4, _⟩ | ⟨b', cs, t, h4, hw, hsz, hcell⟩
        · cases h4
        · simp only [Option.some.injEq] at h4
          subst h4
          rw [ha (.inl hpos)]
          have := RD.sl (F := allF E F H) (w := w) b (0 * k') cap k' ds (fun i j => (w.cell? ⟨b, 0 * k' + (i * k' + j), none⟩).getD undef) (by omega) (.inr ⟨id, _, _, hE, hH, rfl, rfl⟩) hk
            (fun i j hi hj => by
              have hi' : i < rs.length := by omega
              obtain ⟨v, hv, _⟩ := hcell i rs[i] j (rs[i][j]'(by rw [h3 _ _ (List.getElem?_eq_getElem hi')]; exact hj)) (List.getElem?_eq_getElem hi') (List.getElem?_eq_getElem _)
              have : w.cell? ⟨b, 0 * k' + (i * k' + j), none⟩ = some v := by simp [World.cell?, hw, hv]
              rw [this]; rfl)
            (fun i row j y hi hj => by
              have hi' : i < rs.length := by have := (List.getElem?_eq_some_iff.1 hi).1; omega
              have hj' : j < rs[i].length := by
                have e1 := (List.getElem?_eq_some_iff.1 hj).1
                rw [h3 _ _ (List.getElem?_eq_getElem hi')]
                have e2 := hk i row hi
                omega
              obtain ⟨v, hv, _, hd⟩ := hcell i rs[i] j rs[i][j] (List.getElem?_eq_getElem hi') (List.getElem?_eq_getElem hj')
              have : w.cell? ⟨b, 0 * k' + (i * k' + j), none⟩ = some v := by simp [World.cell?, hw, hv]
              rw [this]
              exact ih i rs[i] row j rs[i][j] y (List.getElem?_eq_getElem hi') hi (List.getElem?_eq_getElem hj') hj hd)
          rw [show ds.length = len by omega] at this
          exact this
    | refv _ k' m a hE =>
      have : ds = [] := List.eq_nil_of_length_eq_zero (by omega)
      subst this
      exact .sl0 a 0
  | agg xs ds hl hrr ih =>
    intro v hv
    cases hv with
    | agg _ cs hs hr' =>
      refine .agg ds cs (by omega) fun j y v hy hv => ?_
      have hj : j < xs.length := by have := (List.getElem?_eq_some_iff.1 hy).1; omega
      exact ih j xs[j] y (List.getElem?_eq_getElem hj) hy (hr' j _ v (List.getElem?_eq_getElem hj) hv)
  | tup xs ds hl hrr ih =>
    intro v hv
    cases hv with
    | tup _ cs hs hr' =>
      refine .tup ds cs (by omega) fun j y v hy hv => ?_
      have hj : j < xs.length := by have := (List.getElem?_eq_some_iff.1 hy).1; omega
      exact ih j xs[j] y (List.getElem?_eq_getElem hj) hy (hr' j _ v (List.getElem?_eq_getElem hj) hv)

/-- The callee's result, read as data. -/
theorem AC.deep {P : Program} {f : FuncId} {args : List V} {H : List Blk} {R : V → List Blk → Prop} {R' : V → List Blk → Prop} (h : AC P f args H [] R) (hR : ∀ x H', R x H' → ∃ d, Deep H' x d ∧ R' (ofD d) []) : AC P f args H [] R' := by
  refine ⟨h.1, fun w cargs E F h1 h2 h3 h4 => (h.2 w cargs E F h1 h2 h3 h4).mono ?_⟩
  rintro e w' ⟨v, x, H', E', F', q1, q2, q3, q4⟩
  obtain ⟨d, r1, r2⟩ := hR x H' q2
  have hd := deep_sound q3.hr r1 q4
  refine ⟨v, ofD d, [], [], allF E' F' H', q1, r2, ⟨q3.os, q3.tape, q3.output, q3.size, fun b hb => .inl (q3.F0 b hb), ?_, q3.same, ?_, ⟨rfl, by simp, by simp, by simp⟩, by simp, by simp, q3.sz⟩, ofD_sound hd⟩
  · rintro b (hb | ⟨id, e, blk, g1, g2, g3, g4⟩)
    · exact q3.only b hb
    · exact .inr (q3.src id b e blk g1 g2 g3 g4)
  · rintro b (hb | ⟨id, e, blk, g1, g2, g3, g4⟩)
    · exact q3.lt b hb
    · exact (q3.hr.free id b e blk g1 g4 g2 g3).1

theorem pdd_of {P : Program} {f : FuncId} {fn : Func} {c : Code} {args : List D} {d0 : D} (rs : List ResultVar) (hf : P.funcs[f]? = some fn) (hb : fn.body = some c)
    (hnm : (fn.name == "runtime.NumGoroutine") = false) (hn : (args.map ofD).length ≤ fn.ntmps) (hok : codeOk fn.ntmps c = true) (hrs : fn.results.toList = rs)
    (h : AWP P [] fn.ntmps c ⟨argTm 0 (args.map ofD), []⟩ (Fin P rs fun x H => Deep H x d0)) : PD P f args (ofD d0) := by
  subst hrs
  exact AC.deep (R := fun x H => Deep H x d0) (ac_of hf hb hnm hn hok h) fun x H' hh => ⟨d0, hh, rfl, rfl⟩

end Go.Aw

namespace Go.Aw
set_option linter.unusedSimpArgs false
set_option linter.unusedVariables false
open Go.ChangeShapes Go.WideShapes Go.ChangeAt Go.RowKit

/-- Types of arguments: numbers, truth values, texts, slices, structs (fields in pairs), arrays. -/
inductive Ty where
  | int (k : IntKind)
  | bool
  | str
  | sl (e : Ty)
  | st (fs : Ty)
  | unit
  | pair (a b : Ty)
  | arr (n : Nat) (e : Ty)

/-- Cells of data of a type. -/
inductive Fits : Ty → List D → Prop
  | int (k : IntKind) (n : Int) (h : (Lit.int k n).wf = true) : Fits (.int k) [.int k n]
  | bool (b : Bool) : Fits .bool [.bool b]
  | str (s : ByteArray) (h : s.size ≤ maxLen) : Fits .str [.str s]
  | sl (e : Ty) (rows : List (List D)) (hl : rows.length ≤ maxLen) (h : ∀ row, row ∈ rows → Fits e row) : Fits (.sl e) [.sl rows]
  | st (fs : Ty) (xs : List D) (h : Fits fs xs) : Fits (.st fs) xs
  | unit : Fits .unit []
  | pair (a b : Ty) (xs ys : List D) (h : Fits a xs) (h' : Fits b ys) : Fits (.pair a b) (xs ++ ys)
  | arr0 (e : Ty) : Fits (.arr 0 e) []
  | arrS (n : Nat) (e : Ty) (xs ys : List D) (h : Fits e xs) (h' : Fits (.arr n e) ys) : Fits (.arr (n + 1) e) (xs ++ ys)

/-- The program's type is this one; for fields: from an offset on, with so many cells in all. -/
def Ty.is (P : Program) : Ty → TypeId ⊕ (List Field × Nat × Nat) → Bool
  | .int k, .inl t => match P.underlying t with
    | some (.int k') => k' == k
    | _ => false
  | .bool, .inl t => match P.underlying t with
    | some .bool => true
    | _ => false
  | .str, .inl t => match P.underlying t with
    | some .string => true
    | _ => false
  | .sl e, .inl t => match P.underlying t with
    | some (.slice e') => e.is P (.inl e') && decide (0 < P.cellsOf e')
    | _ => false
  | .st fs, .inl t => match P.underlying t with
    | some (.struct f) => fs.is P (.inr (f.toList, 0, P.cellsOf t))
    | _ => false
  | .arr n e, .inl t => match P.underlying t with
    | some (.array n' e') => n' == n && e.is P (.inl e') && P.cellsOf t == n * P.cellsOf e'
    | _ => false
  | .unit, .inr ([], off, tot) => off == tot
  | .pair a b, .inr (f :: r, off, tot) => f.offset == off && a.is P (.inl f.type) && b.is P (.inr (r, off + P.cellsOf f.type, tot))
  | _, _ => false

def CRL (W : World) (xs : List D) (cs : List Value) : Prop := ∀ (j : Nat) (x : D) (v : Value), xs[j]? = some x → cs[j]? = some v → RD (fun b => b < W.heap.size) W x v

theorem CRL.app {W : World} {xs ys : List D} {cs : List Value} {k : Nat} (h1 : CRL W xs (cs.take k)) (l1 : xs.length = (cs.take k).length) (h2 : CRL W ys (cs.drop k)) (l2 : ys.length = (cs.drop k).length) :
    CRL W (xs ++ ys) cs ∧ (xs ++ ys).length = cs.length := by
  have hs : cs = cs.take k ++ cs.drop k := (List.take_append_drop k cs).symm
  constructor
  · intro j x v hx hv
    rw [hs] at hv
    rw [List.getElem?_append] at hx hv
    rw [l1] at hx
    split at hx
    · rename_i hj
      rw [if_pos hj] at hv
      exact h1 j x v hx hv
    · rename_i hj
      rw [if_neg hj] at hv
      exact h2 _ x v hx hv
  · rw [List.length_append, l1, l2, ← List.length_append, ← hs]

theorem mapM_get {α β : Type} {f : α → Option β} : ∀ {l : List α} {m : List β}, l.mapM f = some m → m.length = l.length ∧ ∀ (i : Nat) (x : α), l[i]? = some x → ∃ y, f x = some y ∧ m[i]? = some y
  | [], m, h => by simp at h; subst h; simp
  | a :: l, m, h => by
    rw [List.mapM_cons] at h
    cases ha : f a with
    | none => simp [ha] at h
    | some y =>
      cases hl : l.mapM f with
      | none => simp [ha, hl] at h
      | some ys =>
        simp [ha, hl] at h
        subst h
        obtain ⟨h1, h2⟩ := mapM_get hl
        refine ⟨by simp [h1], fun i x hx => ?_⟩
        cases i with
        | zero => simp at hx; subst hx; exact ⟨y, ha, rfl⟩
        | succ i => simpa using h2 i x (by simpa using hx)

theorem trod_arr {e : Ty} {W : World} {k : Nat} : ∀ (n : Nat) (cs : List Value), cs.length = n * k →
    (∀ i, i < n → ∃ xs, Fits e xs ∧ xs.length = ((cs.drop (i * k)).take k).length ∧ CRL W xs ((cs.drop (i * k)).take k)) → ∃ xs, Fits (.arr n e) xs ∧ xs.length = cs.length ∧ CRL W xs cs
  | 0, cs, hl, h => by
    have : cs = [] := List.eq_nil_of_length_eq_zero (by omega)
    subst this
    exact ⟨[], .arr0 e, rfl, fun j x v hx => by simp at hx⟩
  | n + 1, cs, hl, h => by
    obtain ⟨xs, h1, h2, h3⟩ := h 0 (by omega)
    simp only [Nat.zero_mul, List.drop_zero] at h2 h3
    have hl' : cs.length = n * k + k := by rw [hl, Nat.add_mul, Nat.one_mul]
    obtain ⟨ys, q1, q2, q3⟩ := trod_arr (e := e) (W := W) (k := k) n (cs.drop k) (by rw [List.length_drop]; omega) (fun i hi => by
      have := h (i + 1) (by omega)
      rw [List.drop_drop]
      rwa [show k + i * k = (i + 1) * k by rw [Nat.add_mul]; omega])
    obtain ⟨c1, c2⟩ := CRL.app h3 h2 q3 q2
    exact ⟨xs ++ ys, .arrS n e xs ys h1 q1, c2, c1⟩

theorem add_spot0 (b off n : Nat) : (⟨b, off, none⟩ : Addr).add n = ⟨b, off + n, none⟩ := by
  simp [Addr.add]

section
variable {H : Type} {enc : TypeId × Value → H} {P : Program} {W : World} {sp : Nat → Bool} {hd : Bool}

/-- **Any argument's cells, read as data.** -/
theorem rd_is : ∀ (ty : Ty) (fuel : Nat),
    (∀ (t : TypeId) (cs : List Value) (x : DataW H × List MemPlace), ty.is P (.inl t) = true → DataW.trod enc P W 0 sp hd fuel t cs = some x → ∃ xs, Fits ty xs ∧ xs.length = cs.length ∧ CRL W xs cs) ∧
    (∀ (fs : List Field) (off tot : Nat) (cs : List Value) (l : List (DataW H × List MemPlace)), ty.is P (.inr (fs, off, tot)) = true → cs.length = tot →
      fs.mapM (fun f => DataW.trod enc P W 0 sp hd fuel f.type ((cs.drop f.offset).take (P.cellsOf f.type))) = some l → ∃ xs, Fits ty xs ∧ xs.length = (cs.drop off).length ∧ CRL W xs (cs.drop off)) := by
  intro ty
  induction ty with
  | int k =>
    intro fuel
    refine ⟨fun t cs x hty h => ?_, fun fs off tot cs l hty => by simp [Ty.is] at hty⟩
    simp only [Ty.is] at hty
    split at hty
    · rename_i k' hu
      have hk : k' = k := by simpa using hty
      subst hk
      obtain ⟨x0, e0, _, e2⟩ := DataW.trod_int hu h
      subst e0
      refine ⟨[.int k' x0], .int _ _ ?_, rfl, fun j y v hy hv => ?_⟩
      · cases fuel with
        | zero => simp [DataW.trod] at h
        | succ n =>
          simp only [DataW.trod, hu] at h
          split at h
          · rename_i hh; exact hh.2
          · cases h
      · match j with
        | 0 => simp at hy hv; subst hy hv; exact .int _ _
        | j + 1 => simp at hy
    · cases hty
  | bool =>
    intro fuel
    refine ⟨fun t cs x hty h => ?_, fun fs off tot cs l hty => by simp [Ty.is] at hty⟩
    simp only [Ty.is] at hty
    split at hty
    · rename_i hu
      cases fuel with
      | zero => simp [DataW.trod] at h
      | succ n =>
        unfold DataW.trod at h
        rw [hu] at h
        split at h <;> first | (rename_i h1 _; cases h1; done) | skip
        all_goals try (simp at *; done)
        rename_i b h1
        refine ⟨[.bool b], .bool b, rfl, fun j y v hy hv => ?_⟩
        match j with
        | 0 => simp at hy hv; subst hy hv; exact .bool _
        | j + 1 => simp at hy
    · cases hty
  | str =>
    intro fuel
    refine ⟨fun t cs x hty h => ?_, fun fs off tot cs l hty => by simp [Ty.is] at hty⟩
    simp only [Ty.is] at hty
    split at hty
    · rename_i hu
      cases fuel with
      | zero => simp [DataW.trod] at h
      | succ n =>
        unfold DataW.trod at h
        rw [hu] at h
        split at h <;> first | (rename_i h1 _; cases h1; done) | skip
        all_goals try (simp at *; done)
        rename_i s h1
        split at h
        · rename_i hsz
          refine ⟨[.str s], .str s hsz, rfl, fun j y v hy hv => ?_⟩
          match j with
          | 0 => simp at hy hv; subst hy hv; exact .str _
          | j + 1 => simp at hy
        · cases h
    · cases hty
  | sl e ih =>
    intro fuel
    refine ⟨fun t cs x hty h => ?_, fun fs off tot cs l hty => by simp [Ty.is] at hty⟩
    simp only [Ty.is] at hty
    split at hty
    · rename_i e' hu
      simp only [Bool.and_eq_true, decide_eq_true_eq] at hty
      obtain ⟨he, hk⟩ := hty
      rcases DataW.trod_slice hu h with ⟨rfl, _⟩ | ⟨a, len, cap, elems, rest, n, rfl, rfl, _, _, hl, hcap, hlen, hel, _⟩
      · refine ⟨[.sl []], .sl e [] (by simp) (by simp), rfl, fun j y v hy hv => ?_⟩
        match j with
        | 0 => simp at hy hv; subst hy hv; exact .sl0 _ _
        | j + 1 => simp at hy
      · have fin : ∀ (rows : List (List D)), Fits (.sl e) [.sl rows] → RD (fun b => b < W.heap.size) W (.sl rows) (.slice (some a) len cap) → ∃ xs, Fits (.sl e) xs ∧ xs.length = [Value.slice (some a) len cap].length ∧ CRL W xs [Value.slice (some a) len cap] := by
          intro rows h1 h2
          refine ⟨_, h1, rfl, fun j y v hy hv => ?_⟩
          match j with
          | 0 => simp at hy hv; subst hy hv; exact h2
          | j + 1 => simp at hy
        rcases Nat.eq_zero_or_pos len with h0 | hpos
        · subst h0
          exact fin [] (.sl e [] (by simp) (by simp)) (.sl0 _ _)
        have hkk : ∃ k, P.cellsOf e' = k ∧ 0 < k := ⟨_, rfl, hk⟩
        obtain ⟨k, hke, hk0⟩ := hkk
        rw [hke] at hel
        have row0 : ∀ i, i < len → ∃ cs, W.cells? 0 (a.add (i * k)) k = some cs ∧ ∃ y, DataW.trod enc P W 0 sp hd n e' cs = some y := by
          intro i hi
          have h2 := hel i hi
          rw [List.getElem?_eq_getElem (by omega), Option.bind_eq_some_iff] at h2
          obtain ⟨cs, hcs, ht⟩ := h2
          exact ⟨cs, hcs, _, ht⟩
        have hspot : a.spot = none := by
          obtain ⟨cs, hcs, _⟩ := row0 0 hpos
          simp only [World.cells?, Nat.zero_le, if_true, Nat.zero_mul] at hcs
          obtain ⟨_, hg⟩ := mapM_get hcs
          obtain ⟨y, hy, _⟩ := hg 0 0 (by rw [List.getElem?_range hk0])
          simp only [Addr.add, if_true] at hy
          unfold World.cell? at hy
          split at hy
          · split at hy
            · cases hy
            · rename_i hs; simpa using hs
          · cases hy
        obtain ⟨b, off, spo⟩ := a
        simp only at hspot
        subst hspot
        have row1 : ∀ i, i < len → ∃ xs, Fits e xs ∧ xs.length = k ∧ ∀ j, j < k → ∃ v, W.cell? ⟨b, off + (i * k + j), none⟩ = some v ∧ ∀ x, xs[j]? = some x → RD (fun b => b < W.heap.size) W x v := by
          intro i hi
          obtain ⟨cs, hcs, y, hy⟩ := row0 i hi
          simp only [World.cells?, Nat.zero_le, if_true, add_spot0] at hcs
          obtain ⟨hl1, hg⟩ := mapM_get hcs
          rw [List.length_range] at hl1
          obtain ⟨xs, f1, f2, f3⟩ := (ih n).1 e' cs y he hy
          refine ⟨xs, f1, by omega, fun j hj => ?_⟩
          obtain ⟨v, hv, hm⟩ := hg j j (by rw [List.getElem?_range hj])
          refine ⟨v, ?_, fun x hx => f3 j x v hx hm⟩
          rw [← hv, Nat.add_assoc]
        have ex : ∃ g : Nat → List D, ∀ i, i < len → Fits e (g i) ∧ (g i).length = k ∧ ∀ j, j < k → ∃ v, W.cell? ⟨b, off + (i * k + j), none⟩ = some v ∧ ∀ x, (g i)[j]? = some x → RD (fun b => b < W.heap.size) W x v :=
          ⟨fun i => if h : i < len then (row1 i h).choose else [], fun i hi => by simp only [hi, dif_pos]; exact (row1 i hi).choose_spec⟩
        obtain ⟨g, hg⟩ := ex
        have hb : b < W.heap.size := by
          obtain ⟨_, _, h1⟩ := hg 0 hpos
          obtain ⟨v, hv, _⟩ := h1 0 hk0
          rcases Nat.lt_or_ge b W.heap.size with h | h
          · exact h
          · simp [World.cell?, Array.getElem?_eq_none h] at hv
        have hrow : ∀ (i : Nat) (row : List D), ((List.range len).map g)[i]? = some row → i < len ∧ row = g i := fun i row hi => by
          simp only [List.getElem?_map, Option.map_eq_some_iff] at hi
          obtain ⟨q, hq, rfl⟩ := hi
          rw [List.getElem?_eq_some_iff] at hq
          obtain ⟨h1, h2⟩ := hq
          simp at h1 h2
          subst h2
          exact ⟨h1, rfl⟩
        have hl' : ((List.range len).map g).length = len := by simp
        have hrd := RD.sl (F := fun b => b < W.heap.size) (w := W) b off cap k ((List.range len).map g) (fun i j => (W.cell? ⟨b, off + (i * k + j), none⟩).getD undef) (by rw [hl']; exact hl) hb
          (fun i row hi => by obtain ⟨h1, rfl⟩ := hrow i row hi; exact (hg i h1).2.1)
          (fun i j hi hj => by
            rw [hl'] at hi
            obtain ⟨v, hv, _⟩ := (hg i hi).2.2 j hj
            rw [hv]; rfl)
          (fun i row j x hi hj => by
            obtain ⟨h1, rfl⟩ := hrow i row hi
            obtain ⟨_, h3, h4⟩ := hg i h1
            have hjk : j < k := by have := (List.getElem?_eq_some_iff.1 hj).1; omega
            obtain ⟨v, hv, h5⟩ := h4 j hjk
            rw [hv]
            exact h5 x hj)
        rw [hl'] at hrd
        refine fin _ (.sl e _ (by rw [hl']; omega) fun row hr => ?_) hrd
        obtain ⟨i, hi, rfl⟩ := List.mem_map.1 hr
        exact (hg i (List.mem_range.1 hi)).1
    · cases hty
  | st fs ih =>
    intro fuel
    refine ⟨fun t cs x hty h => ?_, fun fs off tot cs l hty => by simp [Ty.is] at hty⟩
    simp only [Ty.is] at hty
    split at hty
    · rename_i f hu
      cases fuel with
      | zero => simp [DataW.trod] at h
      | succ n =>
        simp only [DataW.trod, hu] at h
        split at h
        · rename_i hl
          simp only [Option.map_eq_some_iff] at h
          obtain ⟨l, hm, _⟩ := h
          obtain ⟨xs, h1, h2, h3⟩ := (ih n).2 f.toList 0 _ cs l hty hl hm
          rw [List.drop_zero] at h2 h3
          exact ⟨xs, .st fs xs h1, h2, h3⟩
        · cases h
    · cases hty
  | unit =>
    intro fuel
    refine ⟨fun t cs x hty h => by simp [Ty.is] at hty, fun fs off tot cs l hty hl h => ?_⟩
    cases fs with
    | cons f r => simp [Ty.is] at hty
    | nil =>
      simp only [Ty.is, beq_iff_eq] at hty
      refine ⟨[], .unit, ?_, fun j x v hx => by simp at hx⟩
      rw [List.length_drop]; simp; omega
  | pair a b iha ihb =>
    intro fuel
    refine ⟨fun t cs x hty h => by simp [Ty.is] at hty, fun fs off tot cs l hty hl h => ?_⟩
    cases fs with
    | nil => simp [Ty.is] at hty
    | cons f r =>
      simp only [Ty.is, Bool.and_eq_true, beq_iff_eq] at hty
      obtain ⟨⟨ho, ha⟩, hb⟩ := hty
      rw [List.mapM_cons] at h
      cases h1 : DataW.trod enc P W 0 sp hd fuel f.type ((cs.drop f.offset).take (P.cellsOf f.type)) with
      | none => simp [h1] at h
      | some y =>
        cases h2 : r.mapM (fun f => DataW.trod enc P W 0 sp hd fuel f.type ((cs.drop f.offset).take (P.cellsOf f.type))) with
        | none => simp [h1, h2] at h
        | some ys =>
          obtain ⟨xs, q1, q2, q3⟩ := (iha fuel).1 _ _ y ha h1
          obtain ⟨zs, r1, r2, r3⟩ := (ihb fuel).2 r _ tot cs ys hb hl h2
          rw [ho] at q2 q3
          rw [← List.drop_drop] at r2 r3
          obtain ⟨c1, c2⟩ := CRL.app q3 q2 r3 r2
          exact ⟨xs ++ zs, .pair a b xs zs q1 r1, c2, c1⟩
  | arr n e ih =>
    intro fuel
    refine ⟨fun t cs x hty h => ?_, fun fs off tot cs l hty => by simp [Ty.is] at hty⟩
    simp only [Ty.is] at hty
    split at hty
    · rename_i n' e' hu
      simp only [Bool.and_eq_true, beq_iff_eq] at hty
      obtain ⟨⟨rfl, he⟩, hcl⟩ := hty
      cases fuel with
      | zero => simp [DataW.trod] at h
      | succ m =>
        simp only [DataW.trod, hu] at h
        split at h
        · rename_i hl
          simp only [Option.map_eq_some_iff] at h
          obtain ⟨l, hm, _⟩ := h
          obtain ⟨_, hg⟩ := mapM_get hm
          refine trod_arr (k := P.cellsOf e') n' cs (by omega) fun i hi => ?_
          obtain ⟨y, hy, _⟩ := hg i i (by rw [List.getElem?_range hi])
          exact (ih m).1 e' _ y he hy
        · cases h
    · cases hty

/-- An argument: a struct or an array whole, all others as one cell. -/
def FitA : Ty → D → Prop
  | .st fs, x => ∃ xs, x = .agg xs ∧ Fits (.st fs) xs
  | .arr n e, x => ∃ xs, x = .agg xs ∧ Fits (.arr n e) xs
  | ty, x => Fits ty [x]

theorem one_of {ty : Ty} {xs : List D} {v : Value} (h : Fits ty xs) (hl : xs.length = [v].length) (hc : CRL W xs [v]) : ∃ x, Fits ty [x] ∧ VR [] (fun b => b < W.heap.size) W (ofD x) v := by
  match xs, hl with
  | [x], _ => exact ⟨x, h, ofD_sound (hc 0 x v rfl rfl)⟩

theorem arg_is {ty : Ty} {t : TypeId} {v : Value} {d : DataW H} {ps : List MemPlace} {base : Nat} (hty : ty.is P (.inl t) = true) (hval : Value.okWide P W .any base t v) (h : DataW.Trod enc P W 0 sp hd t v d ps) :
    ∃ x, FitA ty x ∧ VR [] (fun b => b < W.heap.size) W (ofD x) v := by
  obtain ⟨fuel, hf⟩ := h
  obtain ⟨xs, h1, h2, h3⟩ := (rd_is ty fuel).1 t _ _ hty hf
  have agg : ∀ cs : Array Value, v = .agg cs → VR [] (fun b => b < W.heap.size) W (ofD (.agg xs)) v := by
    rintro cs rfl
    refine ofD_sound (.agg xs cs (by simpa [Value.cells] using h2.symm) fun j x v hx hv => h3 j x v hx (by simpa [Value.cells] using hv))
  cases ty with
  | st fs =>
    simp only [Ty.is] at hty
    split at hty
    · rename_i f hu
      simp only [Value.okWide, hu] at hval
      obtain ⟨cs, hv, _⟩ := hval
      exact ⟨.agg xs, ⟨xs, rfl, h1⟩, agg cs hv⟩
    · cases hty
  | arr n e =>
    simp only [Ty.is] at hty
    split at hty
    · rename_i n' e' hu
      simp only [Value.okWide, hu] at hval
      obtain ⟨cs, hv, _⟩ := hval
      exact ⟨.agg xs, ⟨xs, rfl, h1⟩, agg cs hv⟩
    · cases hty
  | int k =>
    simp only [Ty.is] at hty
    split at hty
    · rename_i k' hu
      cases v <;> simp only [Value.okWide, hu, Cell.okWide, Cell.ok] at hval
      exact one_of h1 (by simpa [Value.cells] using h2) (by simpa [Value.cells] using h3)
    · cases hty
  | bool =>
    simp only [Ty.is] at hty
    split at hty
    · rename_i hu
      cases v <;> simp only [Value.okWide, hu, Cell.okWide, Cell.ok] at hval
      exact one_of h1 (by simpa [Value.cells] using h2) (by simpa [Value.cells] using h3)
    · cases hty
  | str =>
    simp only [Ty.is] at hty
    split at hty
    · rename_i hu
      cases v <;> simp only [Value.okWide, hu, Cell.okWide, Cell.ok] at hval
      exact one_of h1 (by simpa [Value.cells] using h2) (by simpa [Value.cells] using h3)
    · cases hty
  | sl e =>
    simp only [Ty.is] at hty
    split at hty
    · rename_i e' hu
      obtain ⟨a, len, cap, rfl⟩ := okWide_slice hu hval
      exact one_of h1 (by simpa [Value.cells] using h2) (by simpa [Value.cells] using h3)
    · cases hty
  | unit => simp [Ty.is] at hty
  | pair a b => simp [Ty.is] at hty

def FitAs : List Ty → List D → Prop
  | [], [] => True
  | ty :: tys, x :: xs => FitA ty x ∧ FitAs tys xs
  | _, _ => False
def isAll (P : Program) : List Ty → List TypeId → Bool
  | [], [] => true
  | ty :: tys, t :: ts => ty.is P (.inl t) && isAll P tys ts
  | _, _ => false

theorem args_is {base : Nat} : ∀ {tys : List Ty} {ts : List TypeId} {vs : List Value} {ds : List (DataW H)} {ps : List MemPlace}, isAll P tys ts = true → (∀ (j : Nat) (t : TypeId) (v : Value), ts[j]? = some t → vs[j]? = some v → Value.okWide P W .any base t v) →
    DataW.TrodAll enc P W 0 sp hd ts vs ds ps → ∃ xs, FitAs tys xs ∧ xs.length = vs.length ∧ ∀ (j : Nat) (x : D) (v : Value), xs[j]? = some x → vs[j]? = some v → VR [] (fun b => b < W.heap.size) W (ofD x) v
  | [], [], vs, ds, ps, _, _, h => by
    obtain ⟨rfl, _, _⟩ := trodAll_nil h
    exact ⟨[], trivial, rfl, fun j x v hx => by simp at hx⟩
  | [], t :: ts, _, _, _, hty, _, _ => by simp [isAll] at hty
  | ty :: tys, [], _, _, _, hty, _, _ => by simp [isAll] at hty
  | ty :: tys, t :: ts, vs, ds, ps, hty, hval, h => by
    simp only [isAll, Bool.and_eq_true] at hty
    cases vs with
    | nil => cases ds <;> exact h.elim
    | cons v vs =>
      cases ds with
      | nil => exact h.elim
      | cons d ds =>
        obtain ⟨p, q, h1, h2, _⟩ := h
        obtain ⟨x, f1, f2⟩ := arg_is hty.1 (hval 0 t v rfl rfl) h1
        obtain ⟨xs, g1, g2, g3⟩ := args_is hty.2 (fun j t v ht hv => hval (j + 1) t v (by simpa using ht) (by simpa using hv)) h2
        refine ⟨x :: xs, ⟨f1, g1⟩, by simp [g2], fun j y u hy hu => ?_⟩
        cases j with
        | zero => simp at hy hu; subst hy hu; exact f2
        | succ j => exact g3 j y u (by simpa using hy) (by simpa using hu)

theorem trodAll_len {base : Nat} : ∀ {ts : List TypeId} {vs : List Value} {ds : List (DataW H)} {ps : List MemPlace}, DataW.TrodAll enc P W base sp hd ts vs ds ps → ds.length = ts.length
  | [], vs, ds, ps, h => by obtain ⟨_, rfl, _⟩ := trodAll_nil h; rfl
  | t :: ts, vs, ds, ps, h => by
    cases vs with
    | nil => cases ds <;> exact h.elim
    | cons v vs =>
      cases ds with
      | nil => exact h.elim
      | cons d ds =>
        obtain ⟨p, q, _, h2, _⟩ := h
        simp [trodAll_len h2]

def readAll (P : Program) (ts : List TypeId) : Bool := ts.all fun t => P.readableRec t && decide (t < P.types.size)
theorem trodAll_below {W' : World} (hl : laidOutB P = true) (hb : Below W.heap.size W W') : ∀ {ts : List TypeId} {vs : List Value} {ds : List (DataW H)} {ps : List MemPlace}, readAll P ts = true →
    DataW.TrodAll enc P W 0 (fun _ => true) true ts vs ds ps → (∀ x ∈ ps, x.block < W.heap.size) → DataW.TrodAll enc P W' 0 (fun b => decide (b < W.heap.size)) true ts vs ds ps
  | [], vs, ds, ps, _, h, _ => by
    obtain ⟨rfl, rfl, rfl⟩ := trodAll_nil h
    rfl
  | t :: ts, vs, ds, ps, hr, h, hlt => by
    simp only [readAll, List.all_cons, Bool.and_eq_true, decide_eq_true_eq] at hr
    cases vs with
    | nil => cases ds <;> exact h.elim
    | cons v vs =>
      cases ds with
      | nil => exact h.elim
      | cons d ds =>
        obtain ⟨p, q, h1, h2, rfl⟩ := h
        exact ⟨p, q, Below.trod hl hr.1.1 hr.1.2 h1 hb (fun x hx => hlt x (by simp [hx])), trodAll_below hl hb hr.2 h2 (fun x hx => hlt x (by simp [hx])), rfl⟩

/-- What a call over data leaves: its result, and all old memory. -/
theorem pd_callsG {f : FuncId} {args : List D} {x0 : V} (h : PD P f args x0) {cargs : Array Value} (hc : CR [] (fun b => b < W.heap.size) W (args.map ofD) cargs) :
    Calls P f cargs W fun e W' => ∃ v E' F', e = .returned v ∧ Below W.heap.size W W' ∧ VR E' F' W' x0 v := by
  refine (h.2 W cargs [] (fun b => b < W.heap.size) ⟨rfl, by simp, by simp, by simp⟩ (fun b hb => hb) (by simp) hc).mono ?_
  rintro e W' ⟨v, x, H', E', F', rfl, ⟨rfl, rfl⟩, hr, hv⟩
  refine ⟨v, E', F', rfl, ⟨hr.os, hr.tape, hr.output.output, hr.size, fun k hk => hr.same k hk ?_⟩, hv⟩
  rintro ⟨id, en, blk, h1, _⟩
  simp at h1

/-- **A row that says 'true, and the input reads as it did', from a contract over data.** -/
theorem row_true (hl : laidOutB P = true) {f : FuncId} {fn : Func} {s : ChangeSpec} {tys : List Ty} {bt : TypeId} {apart fresh : Bool} (hty : isAll P tys fn.params.toList = true) (hrd : readAll P fn.params.toList = true) (hres : fn.resultTypes = #[bt]) (hbt : P.underlying bt = some .bool)
    (hvars : s.vars = []) (hs : ∀ ds : List (DataW H), ds.length = tys.length → s.fn H ds = { results := [.lit (.bool true)], args := ds }) (h : ∀ xs, FitAs tys xs → PD P f xs (.d (.bool true)))
    {args : Array Value} {ds gs : List (DataW H)} {before : List MemPlace} {base : Nat} (hval : ∀ (j : Nat) (t : TypeId) (v : Value), fn.params[j]? = some t → args[j]? = some v → Value.okWide P W .any base t v)
    (hW : DataW.Whole enc P fn.params.toList s.vars apart W args.toList ds gs before) :
    Calls P f args W fun e W' => ∃ v, e = .returned v ∧ s.post enc P fn apart fresh false false W args v W' := by
  have hW' := hW
  obtain ⟨p, q, hA, hV, hpq, hfz, hnd⟩ := hW
  rw [hvars] at hV
  obtain ⟨rfl, rfl⟩ := trodVars_none hV
  obtain ⟨xs, f1, f2, f3⟩ := args_is hty (fun j t v ht hv => hval j t v (by simpa using ht) (by simpa using hv)) hA
  refine (pd_callsG (W := W) (h xs f1) ⟨by simp [f2], fun j z v hz hv => ?_⟩).mono fun e W' ⟨v, E', F', he, hb, hv⟩ => ?_
  · simp only [List.getElem?_map, Option.map_eq_some_iff] at hz
    obtain ⟨x, hx, rfl⟩ := hz
    exact f3 j x v hx (by simpa using hv)
  subst he
  have hvv := bool_of hv
  subst hvv
  have hlt : ∀ x ∈ p, x.block < W.heap.size := fun x hx => by
    have := hW'.lt x (by rw [hpq]; simp [hx])
    simpa using this
  have hdl : ds.length = tys.length := by
    have h1 := trodAll_len hA
    have h2 : ∀ {tys : List Ty} {ts : List TypeId}, isAll P tys ts = true → tys.length = ts.length := by
      intro tys
      induction tys with
      | nil => intro ts h; cases ts with
        | nil => rfl
        | cons a b => simp [isAll] at h
      | cons a b ih => intro ts h; cases ts with
        | nil => simp [isAll] at h
        | cons c d => simp only [isAll, Bool.and_eq_true] at h; simp [ih h.2]
    rw [h1, h2 hty]
  have hfn := hs ds hdl
  refine ⟨_, rfl, ds, [], before, [], p, [], hW', ?_, ?_, ?_, hb.frame _, fun h => by cases h⟩
  · rw [List.append_nil, hfn, hres]
    exact trodAll_mk1 (shut_bool hbt true)
  · rw [List.append_nil, hfn]
    exact trodAll_below hl hb hrd hA hlt
  · rw [hvars, List.append_nil, hfn]
    rfl

end
end Go.Aw

namespace Go.Aw
set_option linter.unusedSimpArgs false
set_option linter.unusedVariables false
open Go.RowKit

theorem fitAs_nil {xs : List D} (h : FitAs [] xs) : xs = [] := by
  cases xs with
  | nil => rfl
  | cons x r => exact h.elim

end Go.Aw

namespace Go.Aw
set_option linter.unusedSimpArgs false
set_option linter.unusedVariables false
open Go.RowKit Go.Sort

/-- An own row has other cells now; what else was there stands; new blocks may have come. -/
theorem Rel.rewritten {B : Base} {s : St} {E : Env} {F : Nat → Prop} {w w' : World} (hr : Rel B s E F w) {i b : Nat} {e : En} {blk blk' : Blk} {cs cs' : Array Value} {t : TypeId}
    (he : E[i]? = some e) (hb : s.heap[i]? = some blk) (hl : blk.live = true) (heb : e.blk = some b) (hw : w.heap[b]? = some (.cells cs t (0, 0))) (hw' : w'.heap[b]? = some (.cells cs' t (0, 0))) (hsz : cs'.size = cs.size)
    (hos : w'.os = w.os) (htp : w'.tape = w.tape) (hlt : Later w w') (hsize : w.heap.size ≤ w'.heap.size) (hoth : ∀ c, c < w.heap.size → c ≠ b → w'.heap[c]? = w.heap[c]?)
    (hbr : BR E F w' e blk') :
    Evo E F w E F w' (fun _ => True) ∧ Rel B { s with heap := s.heap.set i blk' } E F w' := by
  obtain ⟨hbl, hbF⟩ := hr.hr.free i b e blk he heb hb hl
  have hlow : ∀ c, c ≠ b → ∀ o, w.heap[c]? = some o → w'.heap[c]? = w.heap[c]? := fun c hc o ho => by
    rcases Nat.lt_or_ge c w.heap.size with h | h
    · exact hoth c h hc
    · rw [Array.getElem?_eq_none h] at ho; cases ho
  have hsame : ∀ c, F c → w'.heap[c]? = w.heap[c]? := fun c hc => hoth c (hr.lt c hc) (fun e => hbF (e ▸ hc))
  have hszs : ∀ c n, Sz w c n → Sz w' c n := fun c n h => by
    by_cases hcb : c = b
    · subst hcb
      obtain ⟨c0, u, hc, hn⟩ := h
      rw [hw] at hc
      simp only [Option.some.injEq, Obj.cells.injEq] at hc
      obtain ⟨rfl, rfl, _⟩ := hc
      exact ⟨cs', _, hw', by omega⟩
    · obtain ⟨c0, u, hc, hn⟩ := h
      exact ⟨c0, u, (hlow c hcb _ hc).trans hc, hn⟩
  have evo : Evo E F w E F w' (fun _ => True) := ⟨fun _ h => h, hsame, fun _ _ _ h => h, hszs⟩
  have hget : ∀ (j : Nat) (bj : Blk), (s.heap.set i blk')[j]? = some bj → (j = i ∧ bj = blk') ∨ (j ≠ i ∧ s.heap[j]? = some bj) := fun j bj hj => by
    rw [List.getElem?_set] at hj
    split at hj
    · split at hj
      · simp at hj; exact .inl ⟨(by assumption : i = j).symm, hj.symm⟩
      · cases hj
    · exact .inr ⟨Ne.symm (by assumption), hj⟩
  refine ⟨evo, hos.trans hr.os, htp.trans hr.tape, hlt.trans hr.output, Nat.le_trans hr.size hsize, hr.F0, hr.only,
    fun c h1 h2 => (hoth c (Nat.lt_of_lt_of_le h1 hr.size) (fun q => (hr.src i b e blk he hb hl heb).elim (fun h => by omega) (fun h => h2 (q ▸ h)))).trans (hr.same c h1 h2),
    fun c hc => Nat.lt_of_lt_of_le (hr.lt c hc) hsize, ⟨by simpa using hr.hr.len, ?_, ?_, ?_⟩, ?_, hr.keep, fun c n h => hszs c n (hr.sz c n h)⟩
  · intro j ej bj hEj hj
    rcases hget j bj hj with ⟨rfl, rfl⟩ | ⟨hji, hj⟩
    · rw [he] at hEj
      simp only [Option.some.injEq] at hEj
      subst hEj
      exact hbr
    · cases hlj : bj.live with
      | false => cases bj <;> simp_all [Blk.live]; trivial
      | true =>
        refine (hr.hr.blk j ej bj hEj hj).evo evo (fun _ _ => trivial) fun c hc => hoth c (hr.hr.free j c ej bj hEj hc hj hlj).1 fun e => ?_
        subst e
        exact hji (hr.hr.inj j i c ej _ bj blk hEj he hc heb hj hb hlj hl)
  · intro j c ej bj hEj hc hj hlj
    rcases hget j bj hj with ⟨rfl, rfl⟩ | ⟨hji, hj⟩
    · rw [he] at hEj
      simp only [Option.some.injEq] at hEj
      subst hEj
      have := hr.hr.free j c _ blk he hc hb hl
      exact ⟨Nat.lt_of_lt_of_le this.1 hsize, this.2⟩
    · have := hr.hr.free j c ej bj hEj hc hj hlj
      exact ⟨Nat.lt_of_lt_of_le this.1 hsize, this.2⟩
  · intro j l c ej el bj bl hEj hEl hcj hcl hj hl' hlj hll
    have hb' : ∀ (j : Nat) (bj : Blk), (s.heap.set i blk')[j]? = some bj → bj.live = true → ∃ b0, s.heap[j]? = some b0 ∧ b0.live = true := fun j bj hj hlj => by
      rcases hget j bj hj with ⟨rfl, rfl⟩ | ⟨hji, hj⟩
      · exact ⟨blk, hb, hl⟩
      · exact ⟨bj, hj, hlj⟩
    obtain ⟨b0, h0, hl0⟩ := hb' j bj hj hlj
    obtain ⟨b1, h1, hl1⟩ := hb' l bl hl' hll
    exact hr.hr.inj j l c ej el b0 b1 hEj hEl hcj hcl h0 h1 hl0 hl1
  · intro j c ej bj hEj hj hlj hc
    rcases hget j bj hj with ⟨rfl, rfl⟩ | ⟨hji, hj⟩
    · exact hr.src j c ej blk hEj hb hl hc
    · exact hr.src j c ej bj hEj hj hlj hc

/-- The world of own memory as a relation to itself. -/
theorem Rel.start {w : World} {F : Nat → Prop} {E : Env} {H : List Blk} {kp : List Nat} (h1 : HR E F w H) (h2 : ∀ b, F b → b < w.heap.size) (h3 : ∀ i, i ∈ kp → i < H.length) : Rel ⟨w, F, own E H, E, kp⟩ ⟨[], H⟩ E F w := by
  refine ⟨rfl, rfl, .refl _, Nat.le_refl _, fun _ h => h, fun _ h => .inl h, fun _ _ _ => rfl, h2, h1, ?_, ?_, fun _ _ h => h⟩
  · exact fun id b e blk q1 q2 q3 q4 => .inr ⟨id, e, blk, q1, q2, q3, q4⟩
  · intro i hi
    have := h3 i hi
    rw [← h1.len] at this
    exact ⟨_, List.getElem?_eq_getElem this, List.getElem?_eq_getElem this⟩

/-- What a call over data leaves, in the words of the library's contracts: draws and new blocks. -/
theorem pd_grown {P : Program} {f : FuncId} {args : List D} {x0 : V} (h : PC P f args fun x H => x = x0 ∧ H = []) {W : World} {F : Nat → Prop} (hF : ∀ b, F b → b < W.heap.size) {cargs : Array Value} (hc : CR [] F W (args.map ofD) cargs) :
    Calls P f cargs W fun e W' => (∃ v E' F', e = .returned v ∧ VR E' F' W' x0 v) ∧ ∃ q os', W' = grow (W.drewN q) os' := by
  refine (h.2 W cargs [] F ⟨rfl, by simp, by simp, by simp⟩ hF (by simp) hc).mono ?_
  rintro e W' ⟨v, x, H', E', F', rfl, ⟨rfl, rfl⟩, hr, hv⟩
  refine ⟨⟨v, E', F', rfl, hv⟩, W'.drawn - W.drawn, W'.heap.extract W.heap.size W'.heap.size, ?_⟩
  have hsame : ∀ k, k < W.heap.size → W'.heap[k]? = W.heap[k]? := fun k hk => hr.same k hk (by
    rintro ⟨id, en, blk, h1, _⟩
    simp at h1)
  obtain ⟨hp, tp, dr, os, out⟩ := W'
  have hos := hr.os
  have htp := hr.tape
  have hout := hr.output.output
  have hdr := hr.output.drawn
  have hsz := hr.size
  simp only at hos htp hout hdr hsz hsame
  subst hos htp hout
  simp only [grow, World.drewN, World.mk.injEq, true_and, and_true]
  refine ⟨?_, by omega⟩
  apply Array.ext_getElem?
  intro k
  rw [Array.getElem?_append]
  split
  · rename_i hk; exact hsame k hk
  · rename_i hk
    rw [Array.getElem?_extract]
    split
    · rename_i hk2
      congr 1; omega
    · rename_i hk2
      exact Array.getElem?_eq_none (by omega)

end Go.Aw

namespace Go.Aw
set_option linter.unusedSimpArgs false
set_option linter.unusedVariables false
open Go.RowKit

theorem tz1 : ksz Go.Proofs.Tryz.prog 1 = some (false, 1) := by kernel_rfl
theorem tzero1 : kzero Go.Proofs.Tryz.prog 1 = some [.d .nilfn] := by kernel_rfl
theorem tz2 : ksz Go.Proofs.Tryz.prog 2 = some (false, 1) := by kernel_rfl
theorem tzero2 : kzero Go.Proofs.Tryz.prog 2 = some [.d (.int .i64 0)] := by kernel_rfl
theorem tzv2 : kzeroV Go.Proofs.Tryz.prog 2 = some (.d (.int .i64 0)) := by kernel_rfl
theorem tby2 : kbytes Go.Proofs.Tryz.prog 2 = some 8 := by kernel_rfl
theorem tint2 : kint Go.Proofs.Tryz.prog 2 = some .i64 := by kernel_rfl
theorem tstr2 : kstr Go.Proofs.Tryz.prog 2 = false := by kernel_rfl
theorem tlf2 : klf Go.Proofs.Tryz.prog 2 = 1 := by kernel_rfl
theorem tz3 : ksz Go.Proofs.Tryz.prog 3 = some (false, 1) := by kernel_rfl
theorem tzero3 : kzero Go.Proofs.Tryz.prog 3 = some [.d (.int .i64 0)] := by kernel_rfl
theorem tzv3 : kzeroV Go.Proofs.Tryz.prog 3 = some (.d (.int .i64 0)) := by kernel_rfl
theorem tby3 : kbytes Go.Proofs.Tryz.prog 3 = some 8 := by kernel_rfl
theorem tint3 : kint Go.Proofs.Tryz.prog 3 = some .i64 := by kernel_rfl
theorem tstr3 : kstr Go.Proofs.Tryz.prog 3 = false := by kernel_rfl
theorem tlf3 : klf Go.Proofs.Tryz.prog 3 = 1 := by kernel_rfl
theorem tz4 : ksz Go.Proofs.Tryz.prog 4 = some (false, 1) := by kernel_rfl
theorem tzero4 : kzero Go.Proofs.Tryz.prog 4 = some [.d (.bool false)] := by kernel_rfl
theorem tzv4 : kzeroV Go.Proofs.Tryz.prog 4 = some (.d (.bool false)) := by kernel_rfl
theorem tby4 : kbytes Go.Proofs.Tryz.prog 4 = some 1 := by kernel_rfl
theorem tlf4 : klf Go.Proofs.Tryz.prog 4 = 2 := by kernel_rfl
theorem tz5 : ksz Go.Proofs.Tryz.prog 5 = some (false, 1) := by kernel_rfl
theorem tzero5 : kzero Go.Proofs.Tryz.prog 5 = some [.d (.int .u8 0)] := by kernel_rfl
theorem tzv5 : kzeroV Go.Proofs.Tryz.prog 5 = some (.d (.int .u8 0)) := by kernel_rfl
theorem tby5 : kbytes Go.Proofs.Tryz.prog 5 = some 1 := by kernel_rfl
theorem tint5 : kint Go.Proofs.Tryz.prog 5 = some .u8 := by kernel_rfl
theorem tstr5 : kstr Go.Proofs.Tryz.prog 5 = false := by kernel_rfl
theorem tlf5 : klf Go.Proofs.Tryz.prog 5 = 1 := by kernel_rfl
theorem tz6 : ksz Go.Proofs.Tryz.prog 6 = some (false, 1) := by kernel_rfl
theorem tzero6 : kzero Go.Proofs.Tryz.prog 6 = some [.d (.int .u8 0)] := by kernel_rfl
theorem tzv6 : kzeroV Go.Proofs.Tryz.prog 6 = some (.d (.int .u8 0)) := by kernel_rfl
theorem tby6 : kbytes Go.Proofs.Tryz.prog 6 = some 1 := by kernel_rfl
theorem tint6 : kint Go.Proofs.Tryz.prog 6 = some .u8 := by kernel_rfl
theorem tstr6 : kstr Go.Proofs.Tryz.prog 6 = false := by kernel_rfl
theorem tlf6 : klf Go.Proofs.Tryz.prog 6 = 1 := by kernel_rfl
theorem tz7 : ksz Go.Proofs.Tryz.prog 7 = some (true, 4) := by kernel_rfl
theorem tzero7 : kzero Go.Proofs.Tryz.prog 7 = some [.d (.int .i64 0), .d (.int .i64 0), .d (.bool false), .d (.int .u8 0)] := by kernel_rfl
theorem tzv7 : kzeroV Go.Proofs.Tryz.prog 7 = some (.agg [.d (.int .i64 0), .d (.int .i64 0), .d (.bool false), .d (.int .u8 0)]) := by kernel_rfl
theorem tby7 : kbytes Go.Proofs.Tryz.prog 7 = some 24 := by kernel_rfl
theorem tpls7 : kplaces Go.Proofs.Tryz.prog 7 = true := by kernel_rfl
theorem tf7_0 : kfld Go.Proofs.Tryz.prog 7 0 = some (0, 2) := by kernel_rfl
theorem tpl7_0 : kplace Go.Proofs.Tryz.prog 7 0 = some (0, 1) := by kernel_rfl
theorem tf7_1 : kfld Go.Proofs.Tryz.prog 7 1 = some (1, 3) := by kernel_rfl
theorem tpl7_1 : kplace Go.Proofs.Tryz.prog 7 1 = some (1, 1) := by kernel_rfl
theorem tf7_2 : kfld Go.Proofs.Tryz.prog 7 2 = some (2, 4) := by kernel_rfl
theorem tpl7_2 : kplace Go.Proofs.Tryz.prog 7 2 = some (2, 1) := by kernel_rfl
theorem tf7_3 : kfld Go.Proofs.Tryz.prog 7 3 = some (3, 6) := by kernel_rfl
theorem tpl7_3 : kplace Go.Proofs.Tryz.prog 7 3 = some (3, 1) := by kernel_rfl
theorem tz8 : ksz Go.Proofs.Tryz.prog 8 = some (true, 4) := by kernel_rfl
theorem tzero8 : kzero Go.Proofs.Tryz.prog 8 = some [.d (.int .i64 0), .d (.int .i64 0), .d (.bool false), .d (.int .u8 0)] := by kernel_rfl
theorem tzv8 : kzeroV Go.Proofs.Tryz.prog 8 = some (.agg [.d (.int .i64 0), .d (.int .i64 0), .d (.bool false), .d (.int .u8 0)]) := by kernel_rfl
theorem tby8 : kbytes Go.Proofs.Tryz.prog 8 = some 24 := by kernel_rfl
theorem tpls8 : kplaces Go.Proofs.Tryz.prog 8 = true := by kernel_rfl
theorem tf8_0 : kfld Go.Proofs.Tryz.prog 8 0 = some (0, 2) := by kernel_rfl
theorem tpl8_0 : kplace Go.Proofs.Tryz.prog 8 0 = some (0, 1) := by kernel_rfl
theorem tf8_1 : kfld Go.Proofs.Tryz.prog 8 1 = some (1, 3) := by kernel_rfl
theorem tpl8_1 : kplace Go.Proofs.Tryz.prog 8 1 = some (1, 1) := by kernel_rfl
theorem tf8_2 : kfld Go.Proofs.Tryz.prog 8 2 = some (2, 4) := by kernel_rfl
theorem tpl8_2 : kplace Go.Proofs.Tryz.prog 8 2 = some (2, 1) := by kernel_rfl
theorem tf8_3 : kfld Go.Proofs.Tryz.prog 8 3 = some (3, 6) := by kernel_rfl
theorem tpl8_3 : kplace Go.Proofs.Tryz.prog 8 3 = some (3, 1) := by kernel_rfl
theorem tz9 : ksz Go.Proofs.Tryz.prog 9 = some (false, 1) := by kernel_rfl
theorem tzero9 : kzero Go.Proofs.Tryz.prog 9 = some [.d (.str ByteArray.empty)] := by kernel_rfl
theorem tzv9 : kzeroV Go.Proofs.Tryz.prog 9 = some (.d (.str ByteArray.empty)) := by kernel_rfl
theorem tby9 : kbytes Go.Proofs.Tryz.prog 9 = some 16 := by kernel_rfl
theorem tstr9 : kstr Go.Proofs.Tryz.prog 9 = true := by kernel_rfl
theorem tsl9 : ksl Go.Proofs.Tryz.prog 9 = false := by kernel_rfl
theorem tseq9 : kseq Go.Proofs.Tryz.prog 9 = true := by kernel_rfl
theorem tlf9 : klf Go.Proofs.Tryz.prog 9 = 3 := by kernel_rfl
theorem tz10 : ksz Go.Proofs.Tryz.prog 10 = some (false, 1) := by kernel_rfl
theorem tzero10 : kzero Go.Proofs.Tryz.prog 10 = some [.d (.str ByteArray.empty)] := by kernel_rfl
theorem tzv10 : kzeroV Go.Proofs.Tryz.prog 10 = some (.d (.str ByteArray.empty)) := by kernel_rfl
theorem tby10 : kbytes Go.Proofs.Tryz.prog 10 = some 16 := by kernel_rfl
theorem tstr10 : kstr Go.Proofs.Tryz.prog 10 = true := by kernel_rfl
theorem tsl10 : ksl Go.Proofs.Tryz.prog 10 = false := by kernel_rfl
theorem tseq10 : kseq Go.Proofs.Tryz.prog 10 = true := by kernel_rfl
theorem tlf10 : klf Go.Proofs.Tryz.prog 10 = 3 := by kernel_rfl
theorem tz11 : ksz Go.Proofs.Tryz.prog 11 = some (false, 1) := by kernel_rfl
theorem tzero11 : kzero Go.Proofs.Tryz.prog 11 = some [.d (.str ByteArray.empty)] := by kernel_rfl
theorem tzv11 : kzeroV Go.Proofs.Tryz.prog 11 = some (.d (.str ByteArray.empty)) := by kernel_rfl
theorem tby11 : kbytes Go.Proofs.Tryz.prog 11 = some 16 := by kernel_rfl
theorem tstr11 : kstr Go.Proofs.Tryz.prog 11 = true := by kernel_rfl
theorem tsl11 : ksl Go.Proofs.Tryz.prog 11 = false := by kernel_rfl
theorem tseq11 : kseq Go.Proofs.Tryz.prog 11 = true := by kernel_rfl
theorem tlf11 : klf Go.Proofs.Tryz.prog 11 = 3 := by kernel_rfl
theorem tz12 : ksz Go.Proofs.Tryz.prog 12 = some (false, 1) := by kernel_rfl
theorem tzero12 : kzero Go.Proofs.Tryz.prog 12 = some [.d (.int .u64 0)] := by kernel_rfl
theorem tzv12 : kzeroV Go.Proofs.Tryz.prog 12 = some (.d (.int .u64 0)) := by kernel_rfl
theorem tby12 : kbytes Go.Proofs.Tryz.prog 12 = some 8 := by kernel_rfl
theorem tint12 : kint Go.Proofs.Tryz.prog 12 = some .u64 := by kernel_rfl
theorem tstr12 : kstr Go.Proofs.Tryz.prog 12 = false := by kernel_rfl
theorem tlf12 : klf Go.Proofs.Tryz.prog 12 = 1 := by kernel_rfl
theorem tz13 : ksz Go.Proofs.Tryz.prog 13 = some (true, 2) := by kernel_rfl
theorem tzero13 : kzero Go.Proofs.Tryz.prog 13 = some [.d (.str ByteArray.empty), .d (.int .u64 0)] := by kernel_rfl
theorem tzv13 : kzeroV Go.Proofs.Tryz.prog 13 = some (.agg [.d (.str ByteArray.empty), .d (.int .u64 0)]) := by kernel_rfl
theorem tby13 : kbytes Go.Proofs.Tryz.prog 13 = some 24 := by kernel_rfl
theorem tpls13 : kplaces Go.Proofs.Tryz.prog 13 = true := by kernel_rfl
theorem tf13_0 : kfld Go.Proofs.Tryz.prog 13 0 = some (0, 9) := by kernel_rfl
theorem tpl13_0 : kplace Go.Proofs.Tryz.prog 13 0 = some (0, 1) := by kernel_rfl
theorem tf13_1 : kfld Go.Proofs.Tryz.prog 13 1 = some (1, 12) := by kernel_rfl
theorem tpl13_1 : kplace Go.Proofs.Tryz.prog 13 1 = some (1, 1) := by kernel_rfl
theorem tz14 : ksz Go.Proofs.Tryz.prog 14 = some (true, 2) := by kernel_rfl
theorem tzero14 : kzero Go.Proofs.Tryz.prog 14 = some [.d (.str ByteArray.empty), .d (.int .u64 0)] := by kernel_rfl
theorem tzv14 : kzeroV Go.Proofs.Tryz.prog 14 = some (.agg [.d (.str ByteArray.empty), .d (.int .u64 0)]) := by kernel_rfl
theorem tby14 : kbytes Go.Proofs.Tryz.prog 14 = some 24 := by kernel_rfl
theorem tpls14 : kplaces Go.Proofs.Tryz.prog 14 = true := by kernel_rfl
theorem tf14_0 : kfld Go.Proofs.Tryz.prog 14 0 = some (0, 9) := by kernel_rfl
theorem tpl14_0 : kplace Go.Proofs.Tryz.prog 14 0 = some (0, 1) := by kernel_rfl
theorem tf14_1 : kfld Go.Proofs.Tryz.prog 14 1 = some (1, 12) := by kernel_rfl
theorem tpl14_1 : kplace Go.Proofs.Tryz.prog 14 1 = some (1, 1) := by kernel_rfl
theorem tz15 : ksz Go.Proofs.Tryz.prog 15 = some (false, 1) := by kernel_rfl
theorem tzero15 : kzero Go.Proofs.Tryz.prog 15 = some [.d .nilptr] := by kernel_rfl
theorem tzv15 : kzeroV Go.Proofs.Tryz.prog 15 = some (.d .nilptr) := by kernel_rfl
theorem tby15 : kbytes Go.Proofs.Tryz.prog 15 = some 8 := by kernel_rfl
theorem tz16 : ksz Go.Proofs.Tryz.prog 16 = some (false, 1) := by kernel_rfl
theorem tzero16 : kzero Go.Proofs.Tryz.prog 16 = some [.d .nilptr] := by kernel_rfl
theorem tzv16 : kzeroV Go.Proofs.Tryz.prog 16 = some (.d .nilptr) := by kernel_rfl
theorem tby16 : kbytes Go.Proofs.Tryz.prog 16 = some 8 := by kernel_rfl
theorem tz17 : ksz Go.Proofs.Tryz.prog 17 = some (false, 1) := by kernel_rfl
theorem tzero17 : kzero Go.Proofs.Tryz.prog 17 = some [.d .nilptr] := by kernel_rfl
theorem tzv17 : kzeroV Go.Proofs.Tryz.prog 17 = some (.d .nilptr) := by kernel_rfl
theorem tby17 : kbytes Go.Proofs.Tryz.prog 17 = some 8 := by kernel_rfl
theorem tz18 : ksz Go.Proofs.Tryz.prog 18 = some (true, 1) := by kernel_rfl
theorem tzero18 : kzero Go.Proofs.Tryz.prog 18 = some [.d .nilptr] := by kernel_rfl
theorem tzv18 : kzeroV Go.Proofs.Tryz.prog 18 = some (.agg [.d .nilptr]) := by kernel_rfl
theorem tby18 : kbytes Go.Proofs.Tryz.prog 18 = some 8 := by kernel_rfl
theorem tpls18 : kplaces Go.Proofs.Tryz.prog 18 = true := by kernel_rfl
theorem tf18_0 : kfld Go.Proofs.Tryz.prog 18 0 = some (0, 17) := by kernel_rfl
theorem tpl18_0 : kplace Go.Proofs.Tryz.prog 18 0 = some (0, 1) := by kernel_rfl
theorem tz19 : ksz Go.Proofs.Tryz.prog 19 = some (true, 1) := by kernel_rfl
theorem tzero19 : kzero Go.Proofs.Tryz.prog 19 = some [.d .nilptr] := by kernel_rfl
theorem tzv19 : kzeroV Go.Proofs.Tryz.prog 19 = some (.agg [.d .nilptr]) := by kernel_rfl
theorem tby19 : kbytes Go.Proofs.Tryz.prog 19 = some 8 := by kernel_rfl
theorem tpls19 : kplaces Go.Proofs.Tryz.prog 19 = true := by kernel_rfl
theorem tf19_0 : kfld Go.Proofs.Tryz.prog 19 0 = some (0, 17) := by kernel_rfl
theorem tpl19_0 : kplace Go.Proofs.Tryz.prog 19 0 = some (0, 1) := by kernel_rfl
theorem tz20 : ksz Go.Proofs.Tryz.prog 20 = some (false, 1) := by kernel_rfl
theorem tzero20 : kzero Go.Proofs.Tryz.prog 20 = some [.d .niliface] := by kernel_rfl
theorem tzv20 : kzeroV Go.Proofs.Tryz.prog 20 = some (.d .niliface) := by kernel_rfl
theorem tby20 : kbytes Go.Proofs.Tryz.prog 20 = some 16 := by kernel_rfl
theorem tz21 : ksz Go.Proofs.Tryz.prog 21 = some (false, 1) := by kernel_rfl
theorem tzero21 : kzero Go.Proofs.Tryz.prog 21 = some [.d (.int .i32 0)] := by kernel_rfl
theorem tzv21 : kzeroV Go.Proofs.Tryz.prog 21 = some (.d (.int .i32 0)) := by kernel_rfl
theorem tby21 : kbytes Go.Proofs.Tryz.prog 21 = some 4 := by kernel_rfl
theorem tint21 : kint Go.Proofs.Tryz.prog 21 = some .i32 := by kernel_rfl
theorem tstr21 : kstr Go.Proofs.Tryz.prog 21 = false := by kernel_rfl
theorem tlf21 : klf Go.Proofs.Tryz.prog 21 = 1 := by kernel_rfl
theorem tz22 : ksz Go.Proofs.Tryz.prog 22 = some (false, 1) := by kernel_rfl
theorem tzero22 : kzero Go.Proofs.Tryz.prog 22 = some [.nil] := by kernel_rfl
theorem tzv22 : kzeroV Go.Proofs.Tryz.prog 22 = some (.nil) := by kernel_rfl
theorem tby22 : kbytes Go.Proofs.Tryz.prog 22 = some 24 := by kernel_rfl
theorem tel22 : kel Go.Proofs.Tryz.prog 22 = some (none, 8, 67) := by kernel_rfl
theorem tsl22 : ksl Go.Proofs.Tryz.prog 22 = true := by kernel_rfl
theorem tstr22 : kstr Go.Proofs.Tryz.prog 22 = false := by kernel_rfl
theorem tseq22 : kseq Go.Proofs.Tryz.prog 22 = true := by kernel_rfl
theorem tz23 : ksz Go.Proofs.Tryz.prog 23 = some (true, 9) := by kernel_rfl
theorem tzero23 : kzero Go.Proofs.Tryz.prog 23 = some [.d (.int .i64 0), .d (.int .i64 0), .d (.int .i64 0), .nil, .d (.int .i64 0), .d (.int .i64 0), .d (.int .i64 0), .d (.int .i64 0), .d (.int .i64 0)] := by kernel_rfl
theorem tzv23 : kzeroV Go.Proofs.Tryz.prog 23 = some (.agg [.d (.int .i64 0), .d (.int .i64 0), .d (.int .i64 0), .nil, .d (.int .i64 0), .d (.int .i64 0), .d (.int .i64 0), .d (.int .i64 0), .d (.int .i64 0)]) := by kernel_rfl
theorem tby23 : kbytes Go.Proofs.Tryz.prog 23 = some 88 := by kernel_rfl
theorem tpls23 : kplaces Go.Proofs.Tryz.prog 23 = true := by kernel_rfl
theorem tf23_0 : kfld Go.Proofs.Tryz.prog 23 0 = some (0, 3) := by kernel_rfl
theorem tpl23_0 : kplace Go.Proofs.Tryz.prog 23 0 = some (0, 1) := by kernel_rfl
theorem tf23_1 : kfld Go.Proofs.Tryz.prog 23 1 = some (1, 3) := by kernel_rfl
theorem tpl23_1 : kplace Go.Proofs.Tryz.prog 23 1 = some (1, 1) := by kernel_rfl
theorem tf23_2 : kfld Go.Proofs.Tryz.prog 23 2 = some (2, 3) := by kernel_rfl
theorem tpl23_2 : kplace Go.Proofs.Tryz.prog 23 2 = some (2, 1) := by kernel_rfl
theorem tf23_3 : kfld Go.Proofs.Tryz.prog 23 3 = some (3, 22) := by kernel_rfl
theorem tpl23_3 : kplace Go.Proofs.Tryz.prog 23 3 = some (3, 1) := by kernel_rfl
theorem tf23_4 : kfld Go.Proofs.Tryz.prog 23 4 = some (4, 3) := by kernel_rfl
theorem tpl23_4 : kplace Go.Proofs.Tryz.prog 23 4 = some (4, 1) := by kernel_rfl
theorem tf23_5 : kfld Go.Proofs.Tryz.prog 23 5 = some (5, 3) := by kernel_rfl
theorem tpl23_5 : kplace Go.Proofs.Tryz.prog 23 5 = some (5, 1) := by kernel_rfl
theorem tf23_6 : kfld Go.Proofs.Tryz.prog 23 6 = some (6, 3) := by kernel_rfl
theorem tpl23_6 : kplace Go.Proofs.Tryz.prog 23 6 = some (6, 1) := by kernel_rfl
theorem tf23_7 : kfld Go.Proofs.Tryz.prog 23 7 = some (7, 3) := by kernel_rfl
theorem tpl23_7 : kplace Go.Proofs.Tryz.prog 23 7 = some (7, 1) := by kernel_rfl
theorem tf23_8 : kfld Go.Proofs.Tryz.prog 23 8 = some (8, 2) := by kernel_rfl
theorem tpl23_8 : kplace Go.Proofs.Tryz.prog 23 8 = some (8, 1) := by kernel_rfl
theorem tz24 : ksz Go.Proofs.Tryz.prog 24 = some (true, 9) := by kernel_rfl
theorem tzero24 : kzero Go.Proofs.Tryz.prog 24 = some [.d (.int .i64 0), .d (.int .i64 0), .d (.int .i64 0), .nil, .d (.int .i64 0), .d (.int .i64 0), .d (.int .i64 0), .d (.int .i64 0), .d (.int .i64 0)] := by kernel_rfl
theorem tzv24 : kzeroV Go.Proofs.Tryz.prog 24 = some (.agg [.d (.int .i64 0), .d (.int .i64 0), .d (.int .i64 0), .nil, .d (.int .i64 0), .d (.int .i64 0), .d (.int .i64 0), .d (.int .i64 0), .d (.int .i64 0)]) := by kernel_rfl
theorem tby24 : kbytes Go.Proofs.Tryz.prog 24 = some 88 := by kernel_rfl
theorem tst24 : kst Go.Proofs.Tryz.prog 24 = some [(3, 0), (3, 1), (3, 2), (22, 3), (3, 4), (3, 5), (3, 6), (3, 7), (2, 8)] := by kernel_rfl
theorem tpls24 : kplaces Go.Proofs.Tryz.prog 24 = true := by kernel_rfl
theorem tf24_0 : kfld Go.Proofs.Tryz.prog 24 0 = some (0, 3) := by kernel_rfl
theorem tpl24_0 : kplace Go.Proofs.Tryz.prog 24 0 = some (0, 1) := by kernel_rfl
theorem tf24_1 : kfld Go.Proofs.Tryz.prog 24 1 = some (1, 3) := by kernel_rfl
theorem tpl24_1 : kplace Go.Proofs.Tryz.prog 24 1 = some (1, 1) := by kernel_rfl
theorem tf24_2 : kfld Go.Proofs.Tryz.prog 24 2 = some (2, 3) := by kernel_rfl
theorem tpl24_2 : kplace Go.Proofs.Tryz.prog 24 2 = some (2, 1) := by kernel_rfl
theorem tf24_3 : kfld Go.Proofs.Tryz.prog 24 3 = some (3, 22) := by kernel_rfl
theorem tpl24_3 : kplace Go.Proofs.Tryz.prog 24 3 = some (3, 1) := by kernel_rfl
theorem tf24_4 : kfld Go.Proofs.Tryz.prog 24 4 = some (4, 3) := by kernel_rfl
theorem tpl24_4 : kplace Go.Proofs.Tryz.prog 24 4 = some (4, 1) := by kernel_rfl
theorem tf24_5 : kfld Go.Proofs.Tryz.prog 24 5 = some (5, 3) := by kernel_rfl
theorem tpl24_5 : kplace Go.Proofs.Tryz.prog 24 5 = some (5, 1) := by kernel_rfl
theorem tf24_6 : kfld Go.Proofs.Tryz.prog 24 6 = some (6, 3) := by kernel_rfl
theorem tpl24_6 : kplace Go.Proofs.Tryz.prog 24 6 = some (6, 1) := by kernel_rfl
theorem tf24_7 : kfld Go.Proofs.Tryz.prog 24 7 = some (7, 3) := by kernel_rfl
theorem tpl24_7 : kplace Go.Proofs.Tryz.prog 24 7 = some (7, 1) := by kernel_rfl
theorem tf24_8 : kfld Go.Proofs.Tryz.prog 24 8 = some (8, 2) := by kernel_rfl
theorem tpl24_8 : kplace Go.Proofs.Tryz.prog 24 8 = some (8, 1) := by kernel_rfl
theorem tz25 : ksz Go.Proofs.Tryz.prog 25 = some (false, 1) := by kernel_rfl
theorem tzero25 : kzero Go.Proofs.Tryz.prog 25 = some [.d .nilfn] := by kernel_rfl
theorem tz26 : ksz Go.Proofs.Tryz.prog 26 = some (false, 1) := by kernel_rfl
theorem tzero26 : kzero Go.Proofs.Tryz.prog 26 = some [.d (.int .i64 0)] := by kernel_rfl
theorem tzv26 : kzeroV Go.Proofs.Tryz.prog 26 = some (.d (.int .i64 0)) := by kernel_rfl
theorem tby26 : kbytes Go.Proofs.Tryz.prog 26 = some 8 := by kernel_rfl
theorem tint26 : kint Go.Proofs.Tryz.prog 26 = some .i64 := by kernel_rfl
theorem tstr26 : kstr Go.Proofs.Tryz.prog 26 = false := by kernel_rfl
theorem tlf26 : klf Go.Proofs.Tryz.prog 26 = 1 := by kernel_rfl
theorem tz27 : ksz Go.Proofs.Tryz.prog 27 = some (false, 1) := by kernel_rfl
theorem tzero27 : kzero Go.Proofs.Tryz.prog 27 = some [.d .nilfn] := by kernel_rfl
theorem tz28 : ksz Go.Proofs.Tryz.prog 28 = some (false, 1) := by kernel_rfl
theorem tzero28 : kzero Go.Proofs.Tryz.prog 28 = some [.d .nilfn] := by kernel_rfl
theorem tz29 : ksz Go.Proofs.Tryz.prog 29 = some (false, 1) := by kernel_rfl
theorem tzero29 : kzero Go.Proofs.Tryz.prog 29 = some [.d .nilfn] := by kernel_rfl
theorem tz31 : ksz Go.Proofs.Tryz.prog 31 = some (false, 1) := by kernel_rfl
theorem tzero31 : kzero Go.Proofs.Tryz.prog 31 = some [.d .nilfn] := by kernel_rfl
theorem tz32 : ksz Go.Proofs.Tryz.prog 32 = some (false, 1) := by kernel_rfl
theorem tzero32 : kzero Go.Proofs.Tryz.prog 32 = some [.d .nilfn] := by kernel_rfl
theorem tz33 : ksz Go.Proofs.Tryz.prog 33 = some (false, 1) := by kernel_rfl
theorem tzero33 : kzero Go.Proofs.Tryz.prog 33 = some [.d .nilfn] := by kernel_rfl
theorem tz34 : ksz Go.Proofs.Tryz.prog 34 = some (false, 1) := by kernel_rfl
theorem tzero34 : kzero Go.Proofs.Tryz.prog 34 = some [.nil] := by kernel_rfl
theorem tzv34 : kzeroV Go.Proofs.Tryz.prog 34 = some (.nil) := by kernel_rfl
theorem tby34 : kbytes Go.Proofs.Tryz.prog 34 = some 24 := by kernel_rfl
theorem tel34 : kel Go.Proofs.Tryz.prog 34 = some (none, 1, 3) := by kernel_rfl
theorem tsl34 : ksl Go.Proofs.Tryz.prog 34 = true := by kernel_rfl
theorem tstr34 : kstr Go.Proofs.Tryz.prog 34 = false := by kernel_rfl
theorem tseq34 : kseq Go.Proofs.Tryz.prog 34 = true := by kernel_rfl
theorem tz35 : ksz Go.Proofs.Tryz.prog 35 = some (false, 1) := by kernel_rfl
theorem tzero35 : kzero Go.Proofs.Tryz.prog 35 = some [.nil] := by kernel_rfl
theorem tzv35 : kzeroV Go.Proofs.Tryz.prog 35 = some (.nil) := by kernel_rfl
theorem tby35 : kbytes Go.Proofs.Tryz.prog 35 = some 24 := by kernel_rfl
theorem tel35 : kel Go.Proofs.Tryz.prog 35 = some (none, 1, 4) := by kernel_rfl
theorem tsl35 : ksl Go.Proofs.Tryz.prog 35 = true := by kernel_rfl
theorem tstr35 : kstr Go.Proofs.Tryz.prog 35 = false := by kernel_rfl
theorem tseq35 : kseq Go.Proofs.Tryz.prog 35 = true := by kernel_rfl
theorem tz36 : ksz Go.Proofs.Tryz.prog 36 = some (false, 1) := by kernel_rfl
theorem tzero36 : kzero Go.Proofs.Tryz.prog 36 = some [.d .nilfn] := by kernel_rfl
theorem tz37 : ksz Go.Proofs.Tryz.prog 37 = some (false, 1) := by kernel_rfl
theorem tzero37 : kzero Go.Proofs.Tryz.prog 37 = some [.d .nilfn] := by kernel_rfl
theorem tz38 : ksz Go.Proofs.Tryz.prog 38 = some (false, 1) := by kernel_rfl
theorem tzero38 : kzero Go.Proofs.Tryz.prog 38 = some [.d .nilfn] := by kernel_rfl
theorem tz39 : ksz Go.Proofs.Tryz.prog 39 = some (false, 1) := by kernel_rfl
theorem tzero39 : kzero Go.Proofs.Tryz.prog 39 = some [.nil] := by kernel_rfl
theorem tzv39 : kzeroV Go.Proofs.Tryz.prog 39 = some (.nil) := by kernel_rfl
theorem tby39 : kbytes Go.Proofs.Tryz.prog 39 = some 24 := by kernel_rfl
theorem tel39 : kel Go.Proofs.Tryz.prog 39 = some (none, 2, 70) := by kernel_rfl
theorem tsl39 : ksl Go.Proofs.Tryz.prog 39 = true := by kernel_rfl
theorem tstr39 : kstr Go.Proofs.Tryz.prog 39 = false := by kernel_rfl
theorem tseq39 : kseq Go.Proofs.Tryz.prog 39 = true := by kernel_rfl
theorem tz40 : ksz Go.Proofs.Tryz.prog 40 = some (false, 1) := by kernel_rfl
theorem tzero40 : kzero Go.Proofs.Tryz.prog 40 = some [.d .nilfn] := by kernel_rfl
theorem tz41 : ksz Go.Proofs.Tryz.prog 41 = some (false, 1) := by kernel_rfl
theorem tzero41 : kzero Go.Proofs.Tryz.prog 41 = some [.d .nilfn] := by kernel_rfl
theorem tz42 : ksz Go.Proofs.Tryz.prog 42 = some (false, 1) := by kernel_rfl
theorem tzero42 : kzero Go.Proofs.Tryz.prog 42 = some [.d .nilfn] := by kernel_rfl
theorem tz43 : ksz Go.Proofs.Tryz.prog 43 = some (true, 2) := by kernel_rfl
theorem tzero43 : kzero Go.Proofs.Tryz.prog 43 = some [.d (.int .i64 0), .d (.int .i64 0)] := by kernel_rfl
theorem tzv43 : kzeroV Go.Proofs.Tryz.prog 43 = some (.agg [.d (.int .i64 0), .d (.int .i64 0)]) := by kernel_rfl
theorem tby43 : kbytes Go.Proofs.Tryz.prog 43 = some 16 := by kernel_rfl
theorem tpls43 : kplaces Go.Proofs.Tryz.prog 43 = true := by kernel_rfl
theorem tf43_0 : kfld Go.Proofs.Tryz.prog 43 0 = some (0, 2) := by kernel_rfl
theorem tpl43_0 : kplace Go.Proofs.Tryz.prog 43 0 = some (0, 1) := by kernel_rfl
theorem tf43_1 : kfld Go.Proofs.Tryz.prog 43 1 = some (1, 2) := by kernel_rfl
theorem tpl43_1 : kplace Go.Proofs.Tryz.prog 43 1 = some (1, 1) := by kernel_rfl
theorem tz44 : ksz Go.Proofs.Tryz.prog 44 = some (true, 2) := by kernel_rfl
theorem tzero44 : kzero Go.Proofs.Tryz.prog 44 = some [.d (.int .i64 0), .d (.int .i64 0)] := by kernel_rfl
theorem tzv44 : kzeroV Go.Proofs.Tryz.prog 44 = some (.agg [.d (.int .i64 0), .d (.int .i64 0)]) := by kernel_rfl
theorem tby44 : kbytes Go.Proofs.Tryz.prog 44 = some 16 := by kernel_rfl
theorem tst44 : kst Go.Proofs.Tryz.prog 44 = some [(2, 0), (2, 1)] := by kernel_rfl
theorem tpls44 : kplaces Go.Proofs.Tryz.prog 44 = true := by kernel_rfl
theorem tf44_0 : kfld Go.Proofs.Tryz.prog 44 0 = some (0, 2) := by kernel_rfl
theorem tpl44_0 : kplace Go.Proofs.Tryz.prog 44 0 = some (0, 1) := by kernel_rfl
theorem tf44_1 : kfld Go.Proofs.Tryz.prog 44 1 = some (1, 2) := by kernel_rfl
theorem tpl44_1 : kplace Go.Proofs.Tryz.prog 44 1 = some (1, 1) := by kernel_rfl
theorem tz45 : ksz Go.Proofs.Tryz.prog 45 = some (false, 1) := by kernel_rfl
theorem tzero45 : kzero Go.Proofs.Tryz.prog 45 = some [.d .nilfn] := by kernel_rfl
theorem tz47 : ksz Go.Proofs.Tryz.prog 47 = some (false, 1) := by kernel_rfl
theorem tzero47 : kzero Go.Proofs.Tryz.prog 47 = some [.d .nilfn] := by kernel_rfl
theorem tz48 : ksz Go.Proofs.Tryz.prog 48 = some (false, 1) := by kernel_rfl
theorem tzero48 : kzero Go.Proofs.Tryz.prog 48 = some [.d .nilfn] := by kernel_rfl
theorem tz49 : ksz Go.Proofs.Tryz.prog 49 = some (false, 1) := by kernel_rfl
theorem tzero49 : kzero Go.Proofs.Tryz.prog 49 = some [.d .nilfn] := by kernel_rfl
theorem tz50 : ksz Go.Proofs.Tryz.prog 50 = some (false, 1) := by kernel_rfl
theorem tzero50 : kzero Go.Proofs.Tryz.prog 50 = some [.d .nilfn] := by kernel_rfl
theorem tz51 : ksz Go.Proofs.Tryz.prog 51 = some (false, 1) := by kernel_rfl
theorem tzero51 : kzero Go.Proofs.Tryz.prog 51 = some [.d .nilfn] := by kernel_rfl
theorem tz53 : ksz Go.Proofs.Tryz.prog 53 = some (false, 1) := by kernel_rfl
theorem tzero53 : kzero Go.Proofs.Tryz.prog 53 = some [.d .nilfn] := by kernel_rfl
theorem tz54 : ksz Go.Proofs.Tryz.prog 54 = some (false, 1) := by kernel_rfl
theorem tzero54 : kzero Go.Proofs.Tryz.prog 54 = some [.nil] := by kernel_rfl
theorem tzv54 : kzeroV Go.Proofs.Tryz.prog 54 = some (.nil) := by kernel_rfl
theorem tby54 : kbytes Go.Proofs.Tryz.prog 54 = some 24 := by kernel_rfl
theorem tel54 : kel Go.Proofs.Tryz.prog 54 = some (none, 1, 2) := by kernel_rfl
theorem tsl54 : ksl Go.Proofs.Tryz.prog 54 = true := by kernel_rfl
theorem tstr54 : kstr Go.Proofs.Tryz.prog 54 = false := by kernel_rfl
theorem tseq54 : kseq Go.Proofs.Tryz.prog 54 = true := by kernel_rfl
theorem tz55 : ksz Go.Proofs.Tryz.prog 55 = some (false, 1) := by kernel_rfl
theorem tzero55 : kzero Go.Proofs.Tryz.prog 55 = some [.d .nilfn] := by kernel_rfl
theorem tz56 : ksz Go.Proofs.Tryz.prog 56 = some (false, 1) := by kernel_rfl
theorem tzero56 : kzero Go.Proofs.Tryz.prog 56 = some [.d .nilfn] := by kernel_rfl
theorem tz57 : ksz Go.Proofs.Tryz.prog 57 = some (false, 1) := by kernel_rfl
theorem tzero57 : kzero Go.Proofs.Tryz.prog 57 = some [.d .nilfn] := by kernel_rfl
theorem tz58 : ksz Go.Proofs.Tryz.prog 58 = some (false, 1) := by kernel_rfl
theorem tzero58 : kzero Go.Proofs.Tryz.prog 58 = some [.d .nilfn] := by kernel_rfl
theorem tz59 : ksz Go.Proofs.Tryz.prog 59 = some (false, 1) := by kernel_rfl
theorem tzero59 : kzero Go.Proofs.Tryz.prog 59 = some [.d .nilfn] := by kernel_rfl
theorem tz60 : ksz Go.Proofs.Tryz.prog 60 = some (false, 1) := by kernel_rfl
theorem tzero60 : kzero Go.Proofs.Tryz.prog 60 = some [.d .nilfn] := by kernel_rfl
theorem tz61 : ksz Go.Proofs.Tryz.prog 61 = some (false, 1) := by kernel_rfl
theorem tzero61 : kzero Go.Proofs.Tryz.prog 61 = some [.d .nilfn] := by kernel_rfl
theorem tz62 : ksz Go.Proofs.Tryz.prog 62 = some (false, 1) := by kernel_rfl
theorem tzero62 : kzero Go.Proofs.Tryz.prog 62 = some [.d .nilfn] := by kernel_rfl
theorem tzv62 : kzeroV Go.Proofs.Tryz.prog 62 = some (.d .nilfn) := by kernel_rfl
theorem tby62 : kbytes Go.Proofs.Tryz.prog 62 = some 8 := by kernel_rfl
theorem tz64 : ksz Go.Proofs.Tryz.prog 64 = some (false, 1) := by kernel_rfl
theorem tzero64 : kzero Go.Proofs.Tryz.prog 64 = some [.d .nilmap] := by kernel_rfl
theorem tzv64 : kzeroV Go.Proofs.Tryz.prog 64 = some (.d .nilmap) := by kernel_rfl
theorem tmap64 : kmap Go.Proofs.Tryz.prog 64 = some (3, 62) := by kernel_rfl
theorem tby64 : kbytes Go.Proofs.Tryz.prog 64 = some 8 := by kernel_rfl
theorem tz65 : ksz Go.Proofs.Tryz.prog 65 = some (false, 1) := by kernel_rfl
theorem tzero65 : kzero Go.Proofs.Tryz.prog 65 = some [.d .nilfn] := by kernel_rfl
theorem tz66 : ksz Go.Proofs.Tryz.prog 66 = some (true, 8) := by kernel_rfl
theorem tzero66 : kzero Go.Proofs.Tryz.prog 66 = some [.d (.int .i64 0), .d (.int .i64 0), .d (.int .i64 0), .d (.int .i64 0), .d (.int .i64 0), .d (.int .i64 0), .d (.int .i64 0), .d (.int .i64 0)] := by kernel_rfl
theorem tzv66 : kzeroV Go.Proofs.Tryz.prog 66 = some (.agg [.d (.int .i64 0), .d (.int .i64 0), .d (.int .i64 0), .d (.int .i64 0), .d (.int .i64 0), .d (.int .i64 0), .d (.int .i64 0), .d (.int .i64 0)]) := by kernel_rfl
theorem tby66 : kbytes Go.Proofs.Tryz.prog 66 = some 64 := by kernel_rfl
theorem tpls66 : kplaces Go.Proofs.Tryz.prog 66 = true := by kernel_rfl
theorem tf66_0 : kfld Go.Proofs.Tryz.prog 66 0 = some (0, 3) := by kernel_rfl
theorem tpl66_0 : kplace Go.Proofs.Tryz.prog 66 0 = some (0, 1) := by kernel_rfl
theorem tf66_1 : kfld Go.Proofs.Tryz.prog 66 1 = some (1, 3) := by kernel_rfl
theorem tpl66_1 : kplace Go.Proofs.Tryz.prog 66 1 = some (1, 1) := by kernel_rfl
theorem tf66_2 : kfld Go.Proofs.Tryz.prog 66 2 = some (2, 44) := by kernel_rfl
theorem tpl66_2 : kplace Go.Proofs.Tryz.prog 66 2 = some (2, 2) := by kernel_rfl
theorem tf66_3 : kfld Go.Proofs.Tryz.prog 66 3 = some (4, 44) := by kernel_rfl
theorem tpl66_3 : kplace Go.Proofs.Tryz.prog 66 3 = some (4, 2) := by kernel_rfl
theorem tf66_4 : kfld Go.Proofs.Tryz.prog 66 4 = some (6, 44) := by kernel_rfl
theorem tpl66_4 : kplace Go.Proofs.Tryz.prog 66 4 = some (6, 2) := by kernel_rfl
theorem tz67 : ksz Go.Proofs.Tryz.prog 67 = some (true, 8) := by kernel_rfl
theorem tzero67 : kzero Go.Proofs.Tryz.prog 67 = some [.d (.int .i64 0), .d (.int .i64 0), .d (.int .i64 0), .d (.int .i64 0), .d (.int .i64 0), .d (.int .i64 0), .d (.int .i64 0), .d (.int .i64 0)] := by kernel_rfl
theorem tzv67 : kzeroV Go.Proofs.Tryz.prog 67 = some (.agg [.d (.int .i64 0), .d (.int .i64 0), .d (.int .i64 0), .d (.int .i64 0), .d (.int .i64 0), .d (.int .i64 0), .d (.int .i64 0), .d (.int .i64 0)]) := by kernel_rfl
theorem tby67 : kbytes Go.Proofs.Tryz.prog 67 = some 64 := by kernel_rfl
theorem tst67 : kst Go.Proofs.Tryz.prog 67 = some [(3, 0), (3, 1), (44, 2), (44, 4), (44, 6)] := by kernel_rfl
theorem tpls67 : kplaces Go.Proofs.Tryz.prog 67 = true := by kernel_rfl
theorem tf67_0 : kfld Go.Proofs.Tryz.prog 67 0 = some (0, 3) := by kernel_rfl
theorem tpl67_0 : kplace Go.Proofs.Tryz.prog 67 0 = some (0, 1) := by kernel_rfl
theorem tf67_1 : kfld Go.Proofs.Tryz.prog 67 1 = some (1, 3) := by kernel_rfl
theorem tpl67_1 : kplace Go.Proofs.Tryz.prog 67 1 = some (1, 1) := by kernel_rfl
theorem tf67_2 : kfld Go.Proofs.Tryz.prog 67 2 = some (2, 44) := by kernel_rfl
theorem tpl67_2 : kplace Go.Proofs.Tryz.prog 67 2 = some (2, 2) := by kernel_rfl
theorem tf67_3 : kfld Go.Proofs.Tryz.prog 67 3 = some (4, 44) := by kernel_rfl
theorem tpl67_3 : kplace Go.Proofs.Tryz.prog 67 3 = some (4, 2) := by kernel_rfl
theorem tf67_4 : kfld Go.Proofs.Tryz.prog 67 4 = some (6, 44) := by kernel_rfl
theorem tpl67_4 : kplace Go.Proofs.Tryz.prog 67 4 = some (6, 2) := by kernel_rfl
theorem tz68 : ksz Go.Proofs.Tryz.prog 68 = some (false, 1) := by kernel_rfl
theorem tzero68 : kzero Go.Proofs.Tryz.prog 68 = some [.d .nilfn] := by kernel_rfl
theorem tz69 : ksz Go.Proofs.Tryz.prog 69 = some (false, 1) := by kernel_rfl
theorem tzero69 : kzero Go.Proofs.Tryz.prog 69 = some [.d .nilfn] := by kernel_rfl
theorem tz70 : ksz Go.Proofs.Tryz.prog 70 = some (true, 2) := by kernel_rfl
theorem tzero70 : kzero Go.Proofs.Tryz.prog 70 = some [.d (.int .i64 0), .d (.int .i64 0)] := by kernel_rfl
theorem tzv70 : kzeroV Go.Proofs.Tryz.prog 70 = some (.agg [.d (.int .i64 0), .d (.int .i64 0)]) := by kernel_rfl
theorem tby70 : kbytes Go.Proofs.Tryz.prog 70 = some 16 := by kernel_rfl
theorem tst70 : kst Go.Proofs.Tryz.prog 70 = some [(2, 0), (2, 1)] := by kernel_rfl
theorem tpls70 : kplaces Go.Proofs.Tryz.prog 70 = true := by kernel_rfl
theorem tf70_0 : kfld Go.Proofs.Tryz.prog 70 0 = some (0, 2) := by kernel_rfl
theorem tpl70_0 : kplace Go.Proofs.Tryz.prog 70 0 = some (0, 1) := by kernel_rfl
theorem tf70_1 : kfld Go.Proofs.Tryz.prog 70 1 = some (1, 2) := by kernel_rfl
theorem tpl70_1 : kplace Go.Proofs.Tryz.prog 70 1 = some (1, 1) := by kernel_rfl
theorem tz71 : ksz Go.Proofs.Tryz.prog 71 = some (false, 1) := by kernel_rfl
theorem tzero71 : kzero Go.Proofs.Tryz.prog 71 = some [.d .nilfn] := by kernel_rfl
theorem tz72 : ksz Go.Proofs.Tryz.prog 72 = some (false, 1) := by kernel_rfl
theorem tzero72 : kzero Go.Proofs.Tryz.prog 72 = some [.d .nilfn] := by kernel_rfl
theorem tz73 : ksz Go.Proofs.Tryz.prog 73 = some (false, 1) := by kernel_rfl
theorem tzero73 : kzero Go.Proofs.Tryz.prog 73 = some [.d .nilfn] := by kernel_rfl
theorem tz74 : ksz Go.Proofs.Tryz.prog 74 = some (false, 1) := by kernel_rfl
theorem tzero74 : kzero Go.Proofs.Tryz.prog 74 = some [.nil] := by kernel_rfl
theorem tzv74 : kzeroV Go.Proofs.Tryz.prog 74 = some (.nil) := by kernel_rfl
theorem tby74 : kbytes Go.Proofs.Tryz.prog 74 = some 24 := by kernel_rfl
theorem tel74 : kel Go.Proofs.Tryz.prog 74 = some (none, 1, 82) := by kernel_rfl
theorem tsl74 : ksl Go.Proofs.Tryz.prog 74 = true := by kernel_rfl
theorem tstr74 : kstr Go.Proofs.Tryz.prog 74 = false := by kernel_rfl
theorem tseq74 : kseq Go.Proofs.Tryz.prog 74 = true := by kernel_rfl
theorem tz75 : ksz Go.Proofs.Tryz.prog 75 = some (false, 1) := by kernel_rfl
theorem tzero75 : kzero Go.Proofs.Tryz.prog 75 = some [.nil] := by kernel_rfl
theorem tzv75 : kzeroV Go.Proofs.Tryz.prog 75 = some (.nil) := by kernel_rfl
theorem tby75 : kbytes Go.Proofs.Tryz.prog 75 = some 24 := by kernel_rfl
theorem tel75 : kel Go.Proofs.Tryz.prog 75 = some (none, 1, 82) := by kernel_rfl
theorem tsl75 : ksl Go.Proofs.Tryz.prog 75 = true := by kernel_rfl
theorem tstr75 : kstr Go.Proofs.Tryz.prog 75 = false := by kernel_rfl
theorem tseq75 : kseq Go.Proofs.Tryz.prog 75 = true := by kernel_rfl
theorem tz76 : ksz Go.Proofs.Tryz.prog 76 = some (false, 1) := by kernel_rfl
theorem tzero76 : kzero Go.Proofs.Tryz.prog 76 = some [.d .nilfn] := by kernel_rfl
theorem tz77 : ksz Go.Proofs.Tryz.prog 77 = some (false, 1) := by kernel_rfl
theorem tzero77 : kzero Go.Proofs.Tryz.prog 77 = some [.d .nilfn] := by kernel_rfl
theorem tz78 : ksz Go.Proofs.Tryz.prog 78 = some (false, 1) := by kernel_rfl
theorem tzero78 : kzero Go.Proofs.Tryz.prog 78 = some [.nil] := by kernel_rfl
theorem tzv78 : kzeroV Go.Proofs.Tryz.prog 78 = some (.nil) := by kernel_rfl
theorem tby78 : kbytes Go.Proofs.Tryz.prog 78 = some 24 := by kernel_rfl
theorem tel78 : kel Go.Proofs.Tryz.prog 78 = some (none, 1, 5) := by kernel_rfl
theorem tsl78 : ksl Go.Proofs.Tryz.prog 78 = true := by kernel_rfl
theorem tstr78 : kstr Go.Proofs.Tryz.prog 78 = false := by kernel_rfl
theorem tseq78 : kseq Go.Proofs.Tryz.prog 78 = true := by kernel_rfl
theorem tz79 : ksz Go.Proofs.Tryz.prog 79 = some (false, 1) := by kernel_rfl
theorem tzero79 : kzero Go.Proofs.Tryz.prog 79 = some [.d .nilfn] := by kernel_rfl
theorem tz80 : ksz Go.Proofs.Tryz.prog 80 = some (false, 1) := by kernel_rfl
theorem tzero80 : kzero Go.Proofs.Tryz.prog 80 = some [.d .nilfn] := by kernel_rfl
theorem tz81 : ksz Go.Proofs.Tryz.prog 81 = some (false, 1) := by kernel_rfl
theorem tzero81 : kzero Go.Proofs.Tryz.prog 81 = some [.d .nilfn] := by kernel_rfl
theorem tz82 : ksz Go.Proofs.Tryz.prog 82 = some (false, 1) := by kernel_rfl
theorem tzero82 : kzero Go.Proofs.Tryz.prog 82 = some [.d (.int .u64 0)] := by kernel_rfl
theorem tzv82 : kzeroV Go.Proofs.Tryz.prog 82 = some (.d (.int .u64 0)) := by kernel_rfl
theorem tby82 : kbytes Go.Proofs.Tryz.prog 82 = some 8 := by kernel_rfl
theorem tint82 : kint Go.Proofs.Tryz.prog 82 = some .u64 := by kernel_rfl
theorem tstr82 : kstr Go.Proofs.Tryz.prog 82 = false := by kernel_rfl
theorem tlf82 : klf Go.Proofs.Tryz.prog 82 = 1 := by kernel_rfl
theorem tz83 : ksz Go.Proofs.Tryz.prog 83 = some (false, 1) := by kernel_rfl
theorem tzero83 : kzero Go.Proofs.Tryz.prog 83 = some [.d .nilfn] := by kernel_rfl
theorem tz84 : ksz Go.Proofs.Tryz.prog 84 = some (false, 1) := by kernel_rfl
theorem tzero84 : kzero Go.Proofs.Tryz.prog 84 = some [.d .nilfn] := by kernel_rfl
theorem tz85 : ksz Go.Proofs.Tryz.prog 85 = some (false, 1) := by kernel_rfl
theorem tzero85 : kzero Go.Proofs.Tryz.prog 85 = some [.nil] := by kernel_rfl
theorem tzv85 : kzeroV Go.Proofs.Tryz.prog 85 = some (.nil) := by kernel_rfl
theorem tby85 : kbytes Go.Proofs.Tryz.prog 85 = some 24 := by kernel_rfl
theorem tel85 : kel Go.Proofs.Tryz.prog 85 = some (none, 1, 75) := by kernel_rfl
theorem tsl85 : ksl Go.Proofs.Tryz.prog 85 = true := by kernel_rfl
theorem tstr85 : kstr Go.Proofs.Tryz.prog 85 = false := by kernel_rfl
theorem tseq85 : kseq Go.Proofs.Tryz.prog 85 = true := by kernel_rfl
theorem tz86 : ksz Go.Proofs.Tryz.prog 86 = some (false, 1) := by kernel_rfl
theorem tzero86 : kzero Go.Proofs.Tryz.prog 86 = some [.d .nilfn] := by kernel_rfl
theorem tz87 : ksz Go.Proofs.Tryz.prog 87 = some (false, 1) := by kernel_rfl
theorem tzero87 : kzero Go.Proofs.Tryz.prog 87 = some [.d .nilfn] := by kernel_rfl
theorem tz88 : ksz Go.Proofs.Tryz.prog 88 = some (false, 1) := by kernel_rfl
theorem tzero88 : kzero Go.Proofs.Tryz.prog 88 = some [.d .nilfn] := by kernel_rfl
theorem tz89 : ksz Go.Proofs.Tryz.prog 89 = some (false, 1) := by kernel_rfl
theorem tzero89 : kzero Go.Proofs.Tryz.prog 89 = some [.d .nilfn] := by kernel_rfl
theorem tzv89 : kzeroV Go.Proofs.Tryz.prog 89 = some (.d .nilfn) := by kernel_rfl
theorem tby89 : kbytes Go.Proofs.Tryz.prog 89 = some 8 := by kernel_rfl
theorem tz90 : ksz Go.Proofs.Tryz.prog 90 = some (false, 1) := by kernel_rfl
theorem tzero90 : kzero Go.Proofs.Tryz.prog 90 = some [.d .nilfn] := by kernel_rfl
theorem tz91 : ksz Go.Proofs.Tryz.prog 91 = some (false, 1) := by kernel_rfl
theorem tzero91 : kzero Go.Proofs.Tryz.prog 91 = some [.d .nilfn] := by kernel_rfl
theorem tz92 : ksz Go.Proofs.Tryz.prog 92 = some (false, 1) := by kernel_rfl
theorem tzero92 : kzero Go.Proofs.Tryz.prog 92 = some [.d .nilfn] := by kernel_rfl
theorem tz93 : ksz Go.Proofs.Tryz.prog 93 = some (false, 1) := by kernel_rfl
theorem tzero93 : kzero Go.Proofs.Tryz.prog 93 = some [.d .nilfn] := by kernel_rfl
theorem tz94 : ksz Go.Proofs.Tryz.prog 94 = some (false, 1) := by kernel_rfl
theorem tzero94 : kzero Go.Proofs.Tryz.prog 94 = some [.d .nilfn] := by kernel_rfl
theorem tz95 : ksz Go.Proofs.Tryz.prog 95 = some (false, 1) := by kernel_rfl
theorem tzero95 : kzero Go.Proofs.Tryz.prog 95 = some [.d .nilfn] := by kernel_rfl
theorem tz96 : ksz Go.Proofs.Tryz.prog 96 = some (false, 1) := by kernel_rfl
theorem tzero96 : kzero Go.Proofs.Tryz.prog 96 = some [.d .nilfn] := by kernel_rfl
theorem tzv96 : kzeroV Go.Proofs.Tryz.prog 96 = some (.d .nilfn) := by kernel_rfl
theorem tby96 : kbytes Go.Proofs.Tryz.prog 96 = some 8 := by kernel_rfl
theorem tz97 : ksz Go.Proofs.Tryz.prog 97 = some (false, 1) := by kernel_rfl
theorem tzero97 : kzero Go.Proofs.Tryz.prog 97 = some [.d .nilfn] := by kernel_rfl
theorem tz98 : ksz Go.Proofs.Tryz.prog 98 = some (false, 1) := by kernel_rfl
theorem tzero98 : kzero Go.Proofs.Tryz.prog 98 = some [.d .nilfn] := by kernel_rfl
theorem tz99 : ksz Go.Proofs.Tryz.prog 99 = some (false, 1) := by kernel_rfl
theorem tzero99 : kzero Go.Proofs.Tryz.prog 99 = some [.d .nilfn] := by kernel_rfl
theorem tz100 : ksz Go.Proofs.Tryz.prog 100 = some (false, 1) := by kernel_rfl
theorem tzero100 : kzero Go.Proofs.Tryz.prog 100 = some [.d .nilfn] := by kernel_rfl
theorem tz101 : ksz Go.Proofs.Tryz.prog 101 = some (false, 1) := by kernel_rfl
theorem tzero101 : kzero Go.Proofs.Tryz.prog 101 = some [.d .nilfn] := by kernel_rfl
theorem tz102 : ksz Go.Proofs.Tryz.prog 102 = some (false, 1) := by kernel_rfl
theorem tzero102 : kzero Go.Proofs.Tryz.prog 102 = some [.d .nilfn] := by kernel_rfl
theorem tz103 : ksz Go.Proofs.Tryz.prog 103 = some (false, 1) := by kernel_rfl
theorem tzero103 : kzero Go.Proofs.Tryz.prog 103 = some [.nil] := by kernel_rfl
theorem tzv103 : kzeroV Go.Proofs.Tryz.prog 103 = some (.nil) := by kernel_rfl
theorem tby103 : kbytes Go.Proofs.Tryz.prog 103 = some 24 := by kernel_rfl
theorem tel103 : kel Go.Proofs.Tryz.prog 103 = some (none, 1, 125) := by kernel_rfl
theorem tsl103 : ksl Go.Proofs.Tryz.prog 103 = true := by kernel_rfl
theorem tstr103 : kstr Go.Proofs.Tryz.prog 103 = false := by kernel_rfl
theorem tseq103 : kseq Go.Proofs.Tryz.prog 103 = true := by kernel_rfl
theorem tz104 : ksz Go.Proofs.Tryz.prog 104 = some (false, 1) := by kernel_rfl
theorem tzero104 : kzero Go.Proofs.Tryz.prog 104 = some [.nil] := by kernel_rfl
theorem tzv104 : kzeroV Go.Proofs.Tryz.prog 104 = some (.nil) := by kernel_rfl
theorem tby104 : kbytes Go.Proofs.Tryz.prog 104 = some 24 := by kernel_rfl
theorem tel104 : kel Go.Proofs.Tryz.prog 104 = some (none, 1, 125) := by kernel_rfl
theorem tsl104 : ksl Go.Proofs.Tryz.prog 104 = true := by kernel_rfl
theorem tstr104 : kstr Go.Proofs.Tryz.prog 104 = false := by kernel_rfl
theorem tseq104 : kseq Go.Proofs.Tryz.prog 104 = true := by kernel_rfl
theorem tz105 : ksz Go.Proofs.Tryz.prog 105 = some (false, 1) := by kernel_rfl
theorem tzero105 : kzero Go.Proofs.Tryz.prog 105 = some [.d .nilfn] := by kernel_rfl
theorem tz106 : ksz Go.Proofs.Tryz.prog 106 = some (false, 1) := by kernel_rfl
theorem tzero106 : kzero Go.Proofs.Tryz.prog 106 = some [.nil] := by kernel_rfl
theorem tzv106 : kzeroV Go.Proofs.Tryz.prog 106 = some (.nil) := by kernel_rfl
theorem tby106 : kbytes Go.Proofs.Tryz.prog 106 = some 24 := by kernel_rfl
theorem tel106 : kel Go.Proofs.Tryz.prog 106 = some (none, 1, 104) := by kernel_rfl
theorem tsl106 : ksl Go.Proofs.Tryz.prog 106 = true := by kernel_rfl
theorem tstr106 : kstr Go.Proofs.Tryz.prog 106 = false := by kernel_rfl
theorem tseq106 : kseq Go.Proofs.Tryz.prog 106 = true := by kernel_rfl
theorem tz107 : ksz Go.Proofs.Tryz.prog 107 = some (false, 1) := by kernel_rfl
theorem tzero107 : kzero Go.Proofs.Tryz.prog 107 = some [.d .nilfn] := by kernel_rfl
theorem tz108 : ksz Go.Proofs.Tryz.prog 108 = some (false, 1) := by kernel_rfl
theorem tzero108 : kzero Go.Proofs.Tryz.prog 108 = some [.d .nilfn] := by kernel_rfl
theorem tz109 : ksz Go.Proofs.Tryz.prog 109 = some (false, 1) := by kernel_rfl
theorem tzero109 : kzero Go.Proofs.Tryz.prog 109 = some [.d .nilfn] := by kernel_rfl
theorem tz110 : ksz Go.Proofs.Tryz.prog 110 = some (false, 1) := by kernel_rfl
theorem tzero110 : kzero Go.Proofs.Tryz.prog 110 = some [.d .nilfn] := by kernel_rfl
theorem tz111 : ksz Go.Proofs.Tryz.prog 111 = some (false, 1) := by kernel_rfl
theorem tzero111 : kzero Go.Proofs.Tryz.prog 111 = some [.d .nilfn] := by kernel_rfl
theorem tzv111 : kzeroV Go.Proofs.Tryz.prog 111 = some (.d .nilfn) := by kernel_rfl
theorem tby111 : kbytes Go.Proofs.Tryz.prog 111 = some 8 := by kernel_rfl
theorem tz112 : ksz Go.Proofs.Tryz.prog 112 = some (false, 1) := by kernel_rfl
theorem tzero112 : kzero Go.Proofs.Tryz.prog 112 = some [.d .nilfn] := by kernel_rfl
theorem tz113 : ksz Go.Proofs.Tryz.prog 113 = some (false, 1) := by kernel_rfl
theorem tzero113 : kzero Go.Proofs.Tryz.prog 113 = some [.d .nilfn] := by kernel_rfl
theorem tz114 : ksz Go.Proofs.Tryz.prog 114 = some (false, 1) := by kernel_rfl
theorem tzero114 : kzero Go.Proofs.Tryz.prog 114 = some [.d .nilfn] := by kernel_rfl
theorem tz115 : ksz Go.Proofs.Tryz.prog 115 = some (false, 1) := by kernel_rfl
theorem tzero115 : kzero Go.Proofs.Tryz.prog 115 = some [.d .nilfn] := by kernel_rfl
theorem tz116 : ksz Go.Proofs.Tryz.prog 116 = some (false, 1) := by kernel_rfl
theorem tzero116 : kzero Go.Proofs.Tryz.prog 116 = some [.d .nilfn] := by kernel_rfl
theorem tz117 : ksz Go.Proofs.Tryz.prog 117 = some (false, 1) := by kernel_rfl
theorem tzero117 : kzero Go.Proofs.Tryz.prog 117 = some [.d .nilfn] := by kernel_rfl
theorem tz118 : ksz Go.Proofs.Tryz.prog 118 = some (false, 1) := by kernel_rfl
theorem tzero118 : kzero Go.Proofs.Tryz.prog 118 = some [.d .nilfn] := by kernel_rfl
theorem tz119 : ksz Go.Proofs.Tryz.prog 119 = some (false, 1) := by kernel_rfl
theorem tzero119 : kzero Go.Proofs.Tryz.prog 119 = some [.d .nilfn] := by kernel_rfl
theorem tz120 : ksz Go.Proofs.Tryz.prog 120 = some (false, 1) := by kernel_rfl
theorem tzero120 : kzero Go.Proofs.Tryz.prog 120 = some [.d (.int .u64 0)] := by kernel_rfl
theorem tzv120 : kzeroV Go.Proofs.Tryz.prog 120 = some (.d (.int .u64 0)) := by kernel_rfl
theorem tby120 : kbytes Go.Proofs.Tryz.prog 120 = some 8 := by kernel_rfl
theorem tint120 : kint Go.Proofs.Tryz.prog 120 = some .u64 := by kernel_rfl
theorem tstr120 : kstr Go.Proofs.Tryz.prog 120 = false := by kernel_rfl
theorem tlf120 : klf Go.Proofs.Tryz.prog 120 = 1 := by kernel_rfl
theorem tz121 : ksz Go.Proofs.Tryz.prog 121 = some (false, 1) := by kernel_rfl
theorem tzero121 : kzero Go.Proofs.Tryz.prog 121 = some [.d .nilfn] := by kernel_rfl
theorem tz122 : ksz Go.Proofs.Tryz.prog 122 = some (true, 6) := by kernel_rfl
theorem tzero122 : kzero Go.Proofs.Tryz.prog 122 = some [.d (.int .i64 0), .d (.int .i64 0), .d (.int .i64 0), .d (.int .i64 0), .d (.int .i64 0), .d (.int .i64 0)] := by kernel_rfl
theorem tzv122 : kzeroV Go.Proofs.Tryz.prog 122 = some (.agg [.d (.int .i64 0), .d (.int .i64 0), .d (.int .i64 0), .d (.int .i64 0), .d (.int .i64 0), .d (.int .i64 0)]) := by kernel_rfl
theorem tby122 : kbytes Go.Proofs.Tryz.prog 122 = some 48 := by kernel_rfl
theorem tel122 : kel Go.Proofs.Tryz.prog 122 = some (some 3, 2, 44) := by kernel_rfl
theorem tpls122 : kplaces Go.Proofs.Tryz.prog 122 = true := by kernel_rfl
theorem tpl122_0 : kplace Go.Proofs.Tryz.prog 122 0 = some (0, 2) := by kernel_rfl
theorem tpl122_1 : kplace Go.Proofs.Tryz.prog 122 1 = some (2, 2) := by kernel_rfl
theorem tpl122_2 : kplace Go.Proofs.Tryz.prog 122 2 = some (4, 2) := by kernel_rfl
theorem tz123 : ksz Go.Proofs.Tryz.prog 123 = some (false, 1) := by kernel_rfl
theorem tzero123 : kzero Go.Proofs.Tryz.prog 123 = some [.d .nilfn] := by kernel_rfl
theorem tz124 : ksz Go.Proofs.Tryz.prog 124 = some (false, 1) := by kernel_rfl
theorem tzero124 : kzero Go.Proofs.Tryz.prog 124 = some [.d .nilfn] := by kernel_rfl
theorem tz125 : ksz Go.Proofs.Tryz.prog 125 = some (false, 1) := by kernel_rfl
theorem tzero125 : kzero Go.Proofs.Tryz.prog 125 = some [.d (.int .u32 0)] := by kernel_rfl
theorem tzv125 : kzeroV Go.Proofs.Tryz.prog 125 = some (.d (.int .u32 0)) := by kernel_rfl
theorem tby125 : kbytes Go.Proofs.Tryz.prog 125 = some 4 := by kernel_rfl
theorem tint125 : kint Go.Proofs.Tryz.prog 125 = some .u32 := by kernel_rfl
theorem tstr125 : kstr Go.Proofs.Tryz.prog 125 = false := by kernel_rfl
theorem tlf125 : klf Go.Proofs.Tryz.prog 125 = 1 := by kernel_rfl
theorem tz126 : ksz Go.Proofs.Tryz.prog 126 = some (false, 1) := by kernel_rfl
theorem tzero126 : kzero Go.Proofs.Tryz.prog 126 = some [.d .nilfn] := by kernel_rfl
theorem tz127 : ksz Go.Proofs.Tryz.prog 127 = some (false, 1) := by kernel_rfl
theorem tzero127 : kzero Go.Proofs.Tryz.prog 127 = some [.d .nilfn] := by kernel_rfl
theorem tz128 : ksz Go.Proofs.Tryz.prog 128 = some (false, 1) := by kernel_rfl
theorem tzero128 : kzero Go.Proofs.Tryz.prog 128 = some [.d .nilfn] := by kernel_rfl
theorem tz130 : ksz Go.Proofs.Tryz.prog 130 = some (false, 1) := by kernel_rfl
theorem tzero130 : kzero Go.Proofs.Tryz.prog 130 = some [.d .nilfn] := by kernel_rfl
theorem tz131 : ksz Go.Proofs.Tryz.prog 131 = some (false, 1) := by kernel_rfl
theorem tzero131 : kzero Go.Proofs.Tryz.prog 131 = some [.d .nilfn] := by kernel_rfl
theorem tz132 : ksz Go.Proofs.Tryz.prog 132 = some (false, 1) := by kernel_rfl
theorem tzero132 : kzero Go.Proofs.Tryz.prog 132 = some [.d .nilfn] := by kernel_rfl
theorem tz133 : ksz Go.Proofs.Tryz.prog 133 = some (false, 1) := by kernel_rfl
theorem tzero133 : kzero Go.Proofs.Tryz.prog 133 = some [.d .nilfn] := by kernel_rfl
theorem tz134 : ksz Go.Proofs.Tryz.prog 134 = some (false, 1) := by kernel_rfl
theorem tzero134 : kzero Go.Proofs.Tryz.prog 134 = some [.d .nilfn] := by kernel_rfl
theorem tz135 : ksz Go.Proofs.Tryz.prog 135 = some (false, 1) := by kernel_rfl
theorem tzero135 : kzero Go.Proofs.Tryz.prog 135 = some [.d (.int .i64 0)] := by kernel_rfl
theorem tzv135 : kzeroV Go.Proofs.Tryz.prog 135 = some (.d (.int .i64 0)) := by kernel_rfl
theorem tby135 : kbytes Go.Proofs.Tryz.prog 135 = some 8 := by kernel_rfl
theorem tint135 : kint Go.Proofs.Tryz.prog 135 = some .i64 := by kernel_rfl
theorem tstr135 : kstr Go.Proofs.Tryz.prog 135 = false := by kernel_rfl
theorem tlf135 : klf Go.Proofs.Tryz.prog 135 = 1 := by kernel_rfl
theorem tz137 : ksz Go.Proofs.Tryz.prog 137 = some (false, 1) := by kernel_rfl
theorem tzero137 : kzero Go.Proofs.Tryz.prog 137 = some [.d .nilfn] := by kernel_rfl
theorem tz138 : ksz Go.Proofs.Tryz.prog 138 = some (false, 1) := by kernel_rfl
theorem tzero138 : kzero Go.Proofs.Tryz.prog 138 = some [.d .nilfn] := by kernel_rfl
theorem tz139 : ksz Go.Proofs.Tryz.prog 139 = some (false, 1) := by kernel_rfl
theorem tzero139 : kzero Go.Proofs.Tryz.prog 139 = some [.d .nilfn] := by kernel_rfl
theorem tz141 : ksz Go.Proofs.Tryz.prog 141 = some (false, 1) := by kernel_rfl
theorem tzero141 : kzero Go.Proofs.Tryz.prog 141 = some [.d .nilfn] := by kernel_rfl
theorem tz142 : ksz Go.Proofs.Tryz.prog 142 = some (false, 1) := by kernel_rfl
theorem tzero142 : kzero Go.Proofs.Tryz.prog 142 = some [.d .nilfn] := by kernel_rfl
theorem tz143 : ksz Go.Proofs.Tryz.prog 143 = some (false, 1) := by kernel_rfl
theorem tzero143 : kzero Go.Proofs.Tryz.prog 143 = some [.d .nilfn] := by kernel_rfl
theorem tz144 : ksz Go.Proofs.Tryz.prog 144 = some (false, 1) := by kernel_rfl
theorem tzero144 : kzero Go.Proofs.Tryz.prog 144 = some [.d .nilfn] := by kernel_rfl
theorem tz145 : ksz Go.Proofs.Tryz.prog 145 = some (false, 1) := by kernel_rfl
theorem tzero145 : kzero Go.Proofs.Tryz.prog 145 = some [.d .nilfn] := by kernel_rfl
theorem tz146 : ksz Go.Proofs.Tryz.prog 146 = some (false, 1) := by kernel_rfl
theorem tzero146 : kzero Go.Proofs.Tryz.prog 146 = some [.d .nilfn] := by kernel_rfl
theorem tz147 : ksz Go.Proofs.Tryz.prog 147 = some (false, 1) := by kernel_rfl
theorem tzero147 : kzero Go.Proofs.Tryz.prog 147 = some [.d .nilfn] := by kernel_rfl
theorem tz148 : ksz Go.Proofs.Tryz.prog 148 = some (false, 1) := by kernel_rfl
theorem tzero148 : kzero Go.Proofs.Tryz.prog 148 = some [.d .nilfn] := by kernel_rfl
theorem tz149 : ksz Go.Proofs.Tryz.prog 149 = some (false, 1) := by kernel_rfl
theorem tzero149 : kzero Go.Proofs.Tryz.prog 149 = some [.d .nilfn] := by kernel_rfl
theorem tz150 : ksz Go.Proofs.Tryz.prog 150 = some (false, 1) := by kernel_rfl
theorem tzero150 : kzero Go.Proofs.Tryz.prog 150 = some [.d .nilfn] := by kernel_rfl
theorem tz151 : ksz Go.Proofs.Tryz.prog 151 = some (false, 1) := by kernel_rfl
theorem tzero151 : kzero Go.Proofs.Tryz.prog 151 = some [.d .nilfn] := by kernel_rfl
theorem tz152 : ksz Go.Proofs.Tryz.prog 152 = some (false, 1) := by kernel_rfl
theorem tzero152 : kzero Go.Proofs.Tryz.prog 152 = some [.d .nilfn] := by kernel_rfl
theorem tz153 : ksz Go.Proofs.Tryz.prog 153 = some (false, 1) := by kernel_rfl
theorem tzero153 : kzero Go.Proofs.Tryz.prog 153 = some [.d .nilfn] := by kernel_rfl
theorem tz154 : ksz Go.Proofs.Tryz.prog 154 = some (false, 1) := by kernel_rfl
theorem tzero154 : kzero Go.Proofs.Tryz.prog 154 = some [.d .nilfn] := by kernel_rfl
theorem tz155 : ksz Go.Proofs.Tryz.prog 155 = some (false, 1) := by kernel_rfl
theorem tzero155 : kzero Go.Proofs.Tryz.prog 155 = some [.d (.int .u64 0)] := by kernel_rfl
theorem tzv155 : kzeroV Go.Proofs.Tryz.prog 155 = some (.d (.int .u64 0)) := by kernel_rfl
theorem tby155 : kbytes Go.Proofs.Tryz.prog 155 = some 8 := by kernel_rfl
theorem tint155 : kint Go.Proofs.Tryz.prog 155 = some .u64 := by kernel_rfl
theorem tstr155 : kstr Go.Proofs.Tryz.prog 155 = false := by kernel_rfl
theorem tlf155 : klf Go.Proofs.Tryz.prog 155 = 1 := by kernel_rfl
theorem tz156 : ksz Go.Proofs.Tryz.prog 156 = some (false, 1) := by kernel_rfl
theorem tzero156 : kzero Go.Proofs.Tryz.prog 156 = some [.d .nilfn] := by kernel_rfl
theorem tz157 : ksz Go.Proofs.Tryz.prog 157 = some (false, 1) := by kernel_rfl
theorem tzero157 : kzero Go.Proofs.Tryz.prog 157 = some [.d .nilfn] := by kernel_rfl
theorem tz158 : ksz Go.Proofs.Tryz.prog 158 = some (false, 1) := by kernel_rfl
theorem tzero158 : kzero Go.Proofs.Tryz.prog 158 = some [.d .nilfn] := by kernel_rfl
theorem tz159 : ksz Go.Proofs.Tryz.prog 159 = some (false, 1) := by kernel_rfl
theorem tzero159 : kzero Go.Proofs.Tryz.prog 159 = some [.d .nilptr] := by kernel_rfl
theorem tzv159 : kzeroV Go.Proofs.Tryz.prog 159 = some (.d .nilptr) := by kernel_rfl
theorem tby159 : kbytes Go.Proofs.Tryz.prog 159 = some 8 := by kernel_rfl
theorem tz160 : ksz Go.Proofs.Tryz.prog 160 = some (false, 1) := by kernel_rfl
theorem tzero160 : kzero Go.Proofs.Tryz.prog 160 = some [.d .nilfn] := by kernel_rfl
theorem tz161 : ksz Go.Proofs.Tryz.prog 161 = some (false, 1) := by kernel_rfl
theorem tzero161 : kzero Go.Proofs.Tryz.prog 161 = some [.d .nilfn] := by kernel_rfl
theorem tz162 : ksz Go.Proofs.Tryz.prog 162 = some (false, 1) := by kernel_rfl
theorem tzero162 : kzero Go.Proofs.Tryz.prog 162 = some [.d .nilfn] := by kernel_rfl
theorem tz163 : ksz Go.Proofs.Tryz.prog 163 = some (false, 1) := by kernel_rfl
theorem tzero163 : kzero Go.Proofs.Tryz.prog 163 = some [.d .nilfn] := by kernel_rfl
theorem tz164 : ksz Go.Proofs.Tryz.prog 164 = some (false, 1) := by kernel_rfl
theorem tzero164 : kzero Go.Proofs.Tryz.prog 164 = some [.d .nilfn] := by kernel_rfl
theorem tz165 : ksz Go.Proofs.Tryz.prog 165 = some (false, 1) := by kernel_rfl
theorem tzero165 : kzero Go.Proofs.Tryz.prog 165 = some [.d .nilfn] := by kernel_rfl
theorem tz166 : ksz Go.Proofs.Tryz.prog 166 = some (false, 1) := by kernel_rfl
theorem tzero166 : kzero Go.Proofs.Tryz.prog 166 = some [.d .nilfn] := by kernel_rfl
theorem tz167 : ksz Go.Proofs.Tryz.prog 167 = some (false, 1) := by kernel_rfl
theorem tzero167 : kzero Go.Proofs.Tryz.prog 167 = some [.d .nilfn] := by kernel_rfl
theorem tz168 : ksz Go.Proofs.Tryz.prog 168 = some (false, 1) := by kernel_rfl
theorem tzero168 : kzero Go.Proofs.Tryz.prog 168 = some [.d .nilptr] := by kernel_rfl
theorem tzv168 : kzeroV Go.Proofs.Tryz.prog 168 = some (.d .nilptr) := by kernel_rfl
theorem tby168 : kbytes Go.Proofs.Tryz.prog 168 = some 8 := by kernel_rfl
theorem tz170 : ksz Go.Proofs.Tryz.prog 170 = some (false, 1) := by kernel_rfl
theorem tzero170 : kzero Go.Proofs.Tryz.prog 170 = some [.d .nilfn] := by kernel_rfl
theorem tz171 : ksz Go.Proofs.Tryz.prog 171 = some (false, 1) := by kernel_rfl
theorem tzero171 : kzero Go.Proofs.Tryz.prog 171 = some [.d .nilfn] := by kernel_rfl
theorem tz172 : ksz Go.Proofs.Tryz.prog 172 = some (false, 1) := by kernel_rfl
theorem tzero172 : kzero Go.Proofs.Tryz.prog 172 = some [.d .nilfn] := by kernel_rfl
theorem tz173 : ksz Go.Proofs.Tryz.prog 173 = some (false, 1) := by kernel_rfl
theorem tzero173 : kzero Go.Proofs.Tryz.prog 173 = some [.d .nilfn] := by kernel_rfl
theorem tz174 : ksz Go.Proofs.Tryz.prog 174 = some (false, 1) := by kernel_rfl
theorem tzero174 : kzero Go.Proofs.Tryz.prog 174 = some [.d .nilfn] := by kernel_rfl
theorem tz175 : ksz Go.Proofs.Tryz.prog 175 = some (false, 1) := by kernel_rfl
theorem tzero175 : kzero Go.Proofs.Tryz.prog 175 = some [.d .nilfn] := by kernel_rfl
theorem tz176 : ksz Go.Proofs.Tryz.prog 176 = some (true, 4) := by kernel_rfl
theorem tzero176 : kzero Go.Proofs.Tryz.prog 176 = some [.d .nilptr, .d .nilptr, .d .nilptr, .d (.str ByteArray.empty)] := by kernel_rfl
theorem tzv176 : kzeroV Go.Proofs.Tryz.prog 176 = some (.agg [.d .nilptr, .d .nilptr, .d .nilptr, .d (.str ByteArray.empty)]) := by kernel_rfl
theorem tby176 : kbytes Go.Proofs.Tryz.prog 176 = some 40 := by kernel_rfl
theorem tpls176 : kplaces Go.Proofs.Tryz.prog 176 = true := by kernel_rfl
theorem tf176_0 : kfld Go.Proofs.Tryz.prog 176 0 = some (0, 17) := by kernel_rfl
theorem tpl176_0 : kplace Go.Proofs.Tryz.prog 176 0 = some (0, 1) := by kernel_rfl
theorem tf176_1 : kfld Go.Proofs.Tryz.prog 176 1 = some (1, 17) := by kernel_rfl
theorem tpl176_1 : kplace Go.Proofs.Tryz.prog 176 1 = some (1, 1) := by kernel_rfl
theorem tf176_2 : kfld Go.Proofs.Tryz.prog 176 2 = some (2, 17) := by kernel_rfl
theorem tpl176_2 : kplace Go.Proofs.Tryz.prog 176 2 = some (2, 1) := by kernel_rfl
theorem tf176_3 : kfld Go.Proofs.Tryz.prog 176 3 = some (3, 9) := by kernel_rfl
theorem tpl176_3 : kplace Go.Proofs.Tryz.prog 176 3 = some (3, 1) := by kernel_rfl
theorem tz177 : ksz Go.Proofs.Tryz.prog 177 = some (true, 4) := by kernel_rfl
theorem tzero177 : kzero Go.Proofs.Tryz.prog 177 = some [.d .nilptr, .d .nilptr, .d .nilptr, .d (.str ByteArray.empty)] := by kernel_rfl
theorem tzv177 : kzeroV Go.Proofs.Tryz.prog 177 = some (.agg [.d .nilptr, .d .nilptr, .d .nilptr, .d (.str ByteArray.empty)]) := by kernel_rfl
theorem tby177 : kbytes Go.Proofs.Tryz.prog 177 = some 40 := by kernel_rfl
theorem tpls177 : kplaces Go.Proofs.Tryz.prog 177 = true := by kernel_rfl
theorem tf177_0 : kfld Go.Proofs.Tryz.prog 177 0 = some (0, 17) := by kernel_rfl
theorem tpl177_0 : kplace Go.Proofs.Tryz.prog 177 0 = some (0, 1) := by kernel_rfl
theorem tf177_1 : kfld Go.Proofs.Tryz.prog 177 1 = some (1, 17) := by kernel_rfl
theorem tpl177_1 : kplace Go.Proofs.Tryz.prog 177 1 = some (1, 1) := by kernel_rfl
theorem tf177_2 : kfld Go.Proofs.Tryz.prog 177 2 = some (2, 17) := by kernel_rfl
theorem tpl177_2 : kplace Go.Proofs.Tryz.prog 177 2 = some (2, 1) := by kernel_rfl
theorem tf177_3 : kfld Go.Proofs.Tryz.prog 177 3 = some (3, 9) := by kernel_rfl
theorem tpl177_3 : kplace Go.Proofs.Tryz.prog 177 3 = some (3, 1) := by kernel_rfl
theorem tz178 : ksz Go.Proofs.Tryz.prog 178 = some (true, 0) := by kernel_rfl
theorem tzero178 : kzero Go.Proofs.Tryz.prog 178 = some [] := by kernel_rfl
theorem tzv178 : kzeroV Go.Proofs.Tryz.prog 178 = some (.agg []) := by kernel_rfl
theorem tby178 : kbytes Go.Proofs.Tryz.prog 178 = some 0 := by kernel_rfl
theorem tel178 : kel Go.Proofs.Tryz.prog 178 = some (some 0, 1, 16) := by kernel_rfl
theorem tpls178 : kplaces Go.Proofs.Tryz.prog 178 = true := by kernel_rfl
theorem tz179 : ksz Go.Proofs.Tryz.prog 179 = some (true, 0) := by kernel_rfl
theorem tzero179 : kzero Go.Proofs.Tryz.prog 179 = some [] := by kernel_rfl
theorem tzv179 : kzeroV Go.Proofs.Tryz.prog 179 = some (.agg []) := by kernel_rfl
theorem tby179 : kbytes Go.Proofs.Tryz.prog 179 = some 0 := by kernel_rfl
theorem tpls179 : kplaces Go.Proofs.Tryz.prog 179 = true := by kernel_rfl
theorem tpl179_0 : kplace Go.Proofs.Tryz.prog 179 0 = some (0, 0) := by kernel_rfl
theorem tz180 : ksz Go.Proofs.Tryz.prog 180 = some (true, 0) := by kernel_rfl
theorem tzero180 : kzero Go.Proofs.Tryz.prog 180 = some [] := by kernel_rfl
theorem tzv180 : kzeroV Go.Proofs.Tryz.prog 180 = some (.agg []) := by kernel_rfl
theorem tby180 : kbytes Go.Proofs.Tryz.prog 180 = some 0 := by kernel_rfl
theorem tpls180 : kplaces Go.Proofs.Tryz.prog 180 = true := by kernel_rfl
theorem tpl180_0 : kplace Go.Proofs.Tryz.prog 180 0 = some (0, 0) := by kernel_rfl
theorem tz181 : ksz Go.Proofs.Tryz.prog 181 = some (false, 1) := by kernel_rfl
theorem tzero181 : kzero Go.Proofs.Tryz.prog 181 = some [.d .nilfn] := by kernel_rfl
theorem tz182 : ksz Go.Proofs.Tryz.prog 182 = some (false, 1) := by kernel_rfl
theorem tzero182 : kzero Go.Proofs.Tryz.prog 182 = some [.d (.int .u8 0)] := by kernel_rfl
theorem tzv182 : kzeroV Go.Proofs.Tryz.prog 182 = some (.d (.int .u8 0)) := by kernel_rfl
theorem tby182 : kbytes Go.Proofs.Tryz.prog 182 = some 1 := by kernel_rfl
theorem tint182 : kint Go.Proofs.Tryz.prog 182 = some .u8 := by kernel_rfl
theorem tstr182 : kstr Go.Proofs.Tryz.prog 182 = false := by kernel_rfl
theorem tlf182 : klf Go.Proofs.Tryz.prog 182 = 1 := by kernel_rfl
theorem tz183 : ksz Go.Proofs.Tryz.prog 183 = some (false, 1) := by kernel_rfl
theorem tzero183 : kzero Go.Proofs.Tryz.prog 183 = some [.d (.int .u8 0)] := by kernel_rfl
theorem tzv183 : kzeroV Go.Proofs.Tryz.prog 183 = some (.d (.int .u8 0)) := by kernel_rfl
theorem tby183 : kbytes Go.Proofs.Tryz.prog 183 = some 1 := by kernel_rfl
theorem tint183 : kint Go.Proofs.Tryz.prog 183 = some .u8 := by kernel_rfl
theorem tstr183 : kstr Go.Proofs.Tryz.prog 183 = false := by kernel_rfl
theorem tlf183 : klf Go.Proofs.Tryz.prog 183 = 1 := by kernel_rfl
theorem tz184 : ksz Go.Proofs.Tryz.prog 184 = some (false, 1) := by kernel_rfl
theorem tzero184 : kzero Go.Proofs.Tryz.prog 184 = some [.d .nilfn] := by kernel_rfl
theorem tz185 : ksz Go.Proofs.Tryz.prog 185 = some (false, 1) := by kernel_rfl
theorem tzero185 : kzero Go.Proofs.Tryz.prog 185 = some [.d .nilptr] := by kernel_rfl
theorem tzv185 : kzeroV Go.Proofs.Tryz.prog 185 = some (.d .nilptr) := by kernel_rfl
theorem tby185 : kbytes Go.Proofs.Tryz.prog 185 = some 8 := by kernel_rfl
theorem tz186 : ksz Go.Proofs.Tryz.prog 186 = some (false, 1) := by kernel_rfl
theorem tzero186 : kzero Go.Proofs.Tryz.prog 186 = some [.d (.int .i32 0)] := by kernel_rfl
theorem tzv186 : kzeroV Go.Proofs.Tryz.prog 186 = some (.d (.int .i32 0)) := by kernel_rfl
theorem tby186 : kbytes Go.Proofs.Tryz.prog 186 = some 4 := by kernel_rfl
theorem tint186 : kint Go.Proofs.Tryz.prog 186 = some .i32 := by kernel_rfl
theorem tstr186 : kstr Go.Proofs.Tryz.prog 186 = false := by kernel_rfl
theorem tlf186 : klf Go.Proofs.Tryz.prog 186 = 1 := by kernel_rfl
theorem tz187 : ksz Go.Proofs.Tryz.prog 187 = some (false, 1) := by kernel_rfl
theorem tzero187 : kzero Go.Proofs.Tryz.prog 187 = some [.d (.int .i32 0)] := by kernel_rfl
theorem tzv187 : kzeroV Go.Proofs.Tryz.prog 187 = some (.d (.int .i32 0)) := by kernel_rfl
theorem tby187 : kbytes Go.Proofs.Tryz.prog 187 = some 4 := by kernel_rfl
theorem tint187 : kint Go.Proofs.Tryz.prog 187 = some .i32 := by kernel_rfl
theorem tstr187 : kstr Go.Proofs.Tryz.prog 187 = false := by kernel_rfl
theorem tlf187 : klf Go.Proofs.Tryz.prog 187 = 1 := by kernel_rfl
theorem tz188 : ksz Go.Proofs.Tryz.prog 188 = some (true, 11) := by kernel_rfl
theorem tzero188 : kzero Go.Proofs.Tryz.prog 188 = some [.d (.int .u64 0), .d (.int .u64 0), .d (.int .u32 0), .d (.int .u8 0), .d (.int .u8 0), .d (.int .u8 0), .d (.int .u8 0), .d .nilfn, .d .nilptr, .d (.int .i32 0), .d (.int .i32 0)] := by kernel_rfl
theorem tzv188 : kzeroV Go.Proofs.Tryz.prog 188 = some (.agg [.d (.int .u64 0), .d (.int .u64 0), .d (.int .u32 0), .d (.int .u8 0), .d (.int .u8 0), .d (.int .u8 0), .d (.int .u8 0), .d .nilfn, .d .nilptr, .d (.int .i32 0), .d (.int .i32 0)]) := by kernel_rfl
theorem tby188 : kbytes Go.Proofs.Tryz.prog 188 = some 48 := by kernel_rfl
theorem tpls188 : kplaces Go.Proofs.Tryz.prog 188 = true := by kernel_rfl
theorem tf188_0 : kfld Go.Proofs.Tryz.prog 188 0 = some (0, 12) := by kernel_rfl
theorem tpl188_0 : kplace Go.Proofs.Tryz.prog 188 0 = some (0, 1) := by kernel_rfl
theorem tf188_1 : kfld Go.Proofs.Tryz.prog 188 1 = some (1, 12) := by kernel_rfl
theorem tpl188_1 : kplace Go.Proofs.Tryz.prog 188 1 = some (1, 1) := by kernel_rfl
theorem tf188_2 : kfld Go.Proofs.Tryz.prog 188 2 = some (2, 125) := by kernel_rfl
theorem tpl188_2 : kplace Go.Proofs.Tryz.prog 188 2 = some (2, 1) := by kernel_rfl
theorem tf188_3 : kfld Go.Proofs.Tryz.prog 188 3 = some (3, 182) := by kernel_rfl
theorem tpl188_3 : kplace Go.Proofs.Tryz.prog 188 3 = some (3, 1) := by kernel_rfl
theorem tf188_4 : kfld Go.Proofs.Tryz.prog 188 4 = some (4, 5) := by kernel_rfl
theorem tpl188_4 : kplace Go.Proofs.Tryz.prog 188 4 = some (4, 1) := by kernel_rfl
theorem tf188_5 : kfld Go.Proofs.Tryz.prog 188 5 = some (5, 5) := by kernel_rfl
theorem tpl188_5 : kplace Go.Proofs.Tryz.prog 188 5 = some (5, 1) := by kernel_rfl
theorem tf188_6 : kfld Go.Proofs.Tryz.prog 188 6 = some (6, 183) := by kernel_rfl
theorem tpl188_6 : kplace Go.Proofs.Tryz.prog 188 6 = some (6, 1) := by kernel_rfl
theorem tf188_7 : kfld Go.Proofs.Tryz.prog 188 7 = some (7, 184) := by kernel_rfl
theorem tpl188_7 : kplace Go.Proofs.Tryz.prog 188 7 = some (7, 1) := by kernel_rfl
theorem tf188_8 : kfld Go.Proofs.Tryz.prog 188 8 = some (8, 185) := by kernel_rfl
theorem tpl188_8 : kplace Go.Proofs.Tryz.prog 188 8 = some (8, 1) := by kernel_rfl
theorem tf188_9 : kfld Go.Proofs.Tryz.prog 188 9 = some (9, 186) := by kernel_rfl
theorem tpl188_9 : kplace Go.Proofs.Tryz.prog 188 9 = some (9, 1) := by kernel_rfl
theorem tf188_10 : kfld Go.Proofs.Tryz.prog 188 10 = some (10, 187) := by kernel_rfl
theorem tpl188_10 : kplace Go.Proofs.Tryz.prog 188 10 = some (10, 1) := by kernel_rfl
theorem tz189 : ksz Go.Proofs.Tryz.prog 189 = some (true, 11) := by kernel_rfl
theorem tzero189 : kzero Go.Proofs.Tryz.prog 189 = some [.d (.int .u64 0), .d (.int .u64 0), .d (.int .u32 0), .d (.int .u8 0), .d (.int .u8 0), .d (.int .u8 0), .d (.int .u8 0), .d .nilfn, .d .nilptr, .d (.int .i32 0), .d (.int .i32 0)] := by kernel_rfl
theorem tzv189 : kzeroV Go.Proofs.Tryz.prog 189 = some (.agg [.d (.int .u64 0), .d (.int .u64 0), .d (.int .u32 0), .d (.int .u8 0), .d (.int .u8 0), .d (.int .u8 0), .d (.int .u8 0), .d .nilfn, .d .nilptr, .d (.int .i32 0), .d (.int .i32 0)]) := by kernel_rfl
theorem tby189 : kbytes Go.Proofs.Tryz.prog 189 = some 48 := by kernel_rfl
theorem tpls189 : kplaces Go.Proofs.Tryz.prog 189 = true := by kernel_rfl
theorem tf189_0 : kfld Go.Proofs.Tryz.prog 189 0 = some (0, 12) := by kernel_rfl
theorem tpl189_0 : kplace Go.Proofs.Tryz.prog 189 0 = some (0, 1) := by kernel_rfl
theorem tf189_1 : kfld Go.Proofs.Tryz.prog 189 1 = some (1, 12) := by kernel_rfl
theorem tpl189_1 : kplace Go.Proofs.Tryz.prog 189 1 = some (1, 1) := by kernel_rfl
theorem tf189_2 : kfld Go.Proofs.Tryz.prog 189 2 = some (2, 125) := by kernel_rfl
theorem tpl189_2 : kplace Go.Proofs.Tryz.prog 189 2 = some (2, 1) := by kernel_rfl
theorem tf189_3 : kfld Go.Proofs.Tryz.prog 189 3 = some (3, 182) := by kernel_rfl
theorem tpl189_3 : kplace Go.Proofs.Tryz.prog 189 3 = some (3, 1) := by kernel_rfl
theorem tf189_4 : kfld Go.Proofs.Tryz.prog 189 4 = some (4, 5) := by kernel_rfl
theorem tpl189_4 : kplace Go.Proofs.Tryz.prog 189 4 = some (4, 1) := by kernel_rfl
theorem tf189_5 : kfld Go.Proofs.Tryz.prog 189 5 = some (5, 5) := by kernel_rfl
theorem tpl189_5 : kplace Go.Proofs.Tryz.prog 189 5 = some (5, 1) := by kernel_rfl
theorem tf189_6 : kfld Go.Proofs.Tryz.prog 189 6 = some (6, 183) := by kernel_rfl
theorem tpl189_6 : kplace Go.Proofs.Tryz.prog 189 6 = some (6, 1) := by kernel_rfl
theorem tf189_7 : kfld Go.Proofs.Tryz.prog 189 7 = some (7, 184) := by kernel_rfl
theorem tpl189_7 : kplace Go.Proofs.Tryz.prog 189 7 = some (7, 1) := by kernel_rfl
theorem tf189_8 : kfld Go.Proofs.Tryz.prog 189 8 = some (8, 185) := by kernel_rfl
theorem tpl189_8 : kplace Go.Proofs.Tryz.prog 189 8 = some (8, 1) := by kernel_rfl
theorem tf189_9 : kfld Go.Proofs.Tryz.prog 189 9 = some (9, 186) := by kernel_rfl
theorem tpl189_9 : kplace Go.Proofs.Tryz.prog 189 9 = some (9, 1) := by kernel_rfl
theorem tf189_10 : kfld Go.Proofs.Tryz.prog 189 10 = some (10, 187) := by kernel_rfl
theorem tpl189_10 : kplace Go.Proofs.Tryz.prog 189 10 = some (10, 1) := by kernel_rfl
theorem tz190 : ksz Go.Proofs.Tryz.prog 190 = some (false, 1) := by kernel_rfl
theorem tzero190 : kzero Go.Proofs.Tryz.prog 190 = some [.d .nilptr] := by kernel_rfl
theorem tzv190 : kzeroV Go.Proofs.Tryz.prog 190 = some (.d .nilptr) := by kernel_rfl
theorem tby190 : kbytes Go.Proofs.Tryz.prog 190 = some 8 := by kernel_rfl
theorem tex0 : extN Go.Proofs.Tryz.prog 0 = 0 := by kernel_rfl
theorem tex1 : extN Go.Proofs.Tryz.prog 1 = 0 := by kernel_rfl
theorem tex2 : extN Go.Proofs.Tryz.prog 2 = 0 := by kernel_rfl
theorem tex3 : extN Go.Proofs.Tryz.prog 3 = 0 := by kernel_rfl
theorem tex4 : extN Go.Proofs.Tryz.prog 4 = 0 := by kernel_rfl
theorem tex5 : extN Go.Proofs.Tryz.prog 5 = 0 := by kernel_rfl
theorem tex6 : extN Go.Proofs.Tryz.prog 6 = 0 := by kernel_rfl
theorem tex7 : extN Go.Proofs.Tryz.prog 7 = 0 := by kernel_rfl
theorem tex8 : extN Go.Proofs.Tryz.prog 8 = 0 := by kernel_rfl
theorem tex9 : extN Go.Proofs.Tryz.prog 9 = 0 := by kernel_rfl
theorem tex10 : extN Go.Proofs.Tryz.prog 10 = 0 := by kernel_rfl
theorem tex11 : extN Go.Proofs.Tryz.prog 11 = 0 := by kernel_rfl
theorem tex12 : extN Go.Proofs.Tryz.prog 12 = 0 := by kernel_rfl
theorem tex13 : extN Go.Proofs.Tryz.prog 13 = 0 := by kernel_rfl
theorem tex14 : extN Go.Proofs.Tryz.prog 14 = 0 := by kernel_rfl
theorem tex15 : extN Go.Proofs.Tryz.prog 15 = 0 := by kernel_rfl
theorem tex16 : extN Go.Proofs.Tryz.prog 16 = 0 := by kernel_rfl
theorem tex17 : extN Go.Proofs.Tryz.prog 17 = 0 := by kernel_rfl
theorem tex18 : extN Go.Proofs.Tryz.prog 18 = 0 := by kernel_rfl
theorem tex19 : extN Go.Proofs.Tryz.prog 19 = 0 := by kernel_rfl
theorem tex20 : extN Go.Proofs.Tryz.prog 20 = 0 := by kernel_rfl
theorem tex21 : extN Go.Proofs.Tryz.prog 21 = 0 := by kernel_rfl
theorem tex22 : extN Go.Proofs.Tryz.prog 22 = 0 := by kernel_rfl
theorem tex23 : extN Go.Proofs.Tryz.prog 23 = 0 := by kernel_rfl
theorem tex24 : extN Go.Proofs.Tryz.prog 24 = 0 := by kernel_rfl
theorem tex25 : extN Go.Proofs.Tryz.prog 25 = 0 := by kernel_rfl
theorem tex26 : extN Go.Proofs.Tryz.prog 26 = 0 := by kernel_rfl
theorem tex27 : extN Go.Proofs.Tryz.prog 27 = 0 := by kernel_rfl
theorem tex28 : extN Go.Proofs.Tryz.prog 28 = 0 := by kernel_rfl
theorem tex29 : extN Go.Proofs.Tryz.prog 29 = 0 := by kernel_rfl
theorem tex30 : extN Go.Proofs.Tryz.prog 30 = 0 := by kernel_rfl
theorem tex31 : extN Go.Proofs.Tryz.prog 31 = 0 := by kernel_rfl
theorem tex32 : extN Go.Proofs.Tryz.prog 32 = 0 := by kernel_rfl
theorem tex33 : extN Go.Proofs.Tryz.prog 33 = 0 := by kernel_rfl
theorem tex34 : extN Go.Proofs.Tryz.prog 34 = 0 := by kernel_rfl
theorem tex35 : extN Go.Proofs.Tryz.prog 35 = 0 := by kernel_rfl
theorem tex36 : extN Go.Proofs.Tryz.prog 36 = 0 := by kernel_rfl
theorem tex37 : extN Go.Proofs.Tryz.prog 37 = 0 := by kernel_rfl
theorem tex38 : extN Go.Proofs.Tryz.prog 38 = 0 := by kernel_rfl
theorem tex39 : extN Go.Proofs.Tryz.prog 39 = 0 := by kernel_rfl
theorem tex40 : extN Go.Proofs.Tryz.prog 40 = 0 := by kernel_rfl
theorem tex41 : extN Go.Proofs.Tryz.prog 41 = 0 := by kernel_rfl
theorem tex42 : extN Go.Proofs.Tryz.prog 42 = 0 := by kernel_rfl
theorem tex43 : extN Go.Proofs.Tryz.prog 43 = 0 := by kernel_rfl
theorem tex44 : extN Go.Proofs.Tryz.prog 44 = 0 := by kernel_rfl
theorem tex45 : extN Go.Proofs.Tryz.prog 45 = 0 := by kernel_rfl
theorem tex46 : extN Go.Proofs.Tryz.prog 46 = 0 := by kernel_rfl
theorem tex47 : extN Go.Proofs.Tryz.prog 47 = 0 := by kernel_rfl
theorem tex48 : extN Go.Proofs.Tryz.prog 48 = 0 := by kernel_rfl
theorem tex49 : extN Go.Proofs.Tryz.prog 49 = 0 := by kernel_rfl
theorem tex50 : extN Go.Proofs.Tryz.prog 50 = 0 := by kernel_rfl
theorem tex51 : extN Go.Proofs.Tryz.prog 51 = 0 := by kernel_rfl
theorem tex52 : extN Go.Proofs.Tryz.prog 52 = 0 := by kernel_rfl
theorem tex53 : extN Go.Proofs.Tryz.prog 53 = 0 := by kernel_rfl
theorem tex54 : extN Go.Proofs.Tryz.prog 54 = 0 := by kernel_rfl
theorem tex55 : extN Go.Proofs.Tryz.prog 55 = 0 := by kernel_rfl
theorem tex56 : extN Go.Proofs.Tryz.prog 56 = 0 := by kernel_rfl
theorem tex57 : extN Go.Proofs.Tryz.prog 57 = 0 := by kernel_rfl
theorem tex58 : extN Go.Proofs.Tryz.prog 58 = 0 := by kernel_rfl
theorem tex59 : extN Go.Proofs.Tryz.prog 59 = 0 := by kernel_rfl
theorem tex60 : extN Go.Proofs.Tryz.prog 60 = 0 := by kernel_rfl
theorem tex61 : extN Go.Proofs.Tryz.prog 61 = 0 := by kernel_rfl
theorem tex62 : extN Go.Proofs.Tryz.prog 62 = 0 := by kernel_rfl
theorem tex63 : extN Go.Proofs.Tryz.prog 63 = 0 := by kernel_rfl
theorem tex64 : extN Go.Proofs.Tryz.prog 64 = 0 := by kernel_rfl
theorem tex65 : extN Go.Proofs.Tryz.prog 65 = 0 := by kernel_rfl
theorem tex66 : extN Go.Proofs.Tryz.prog 66 = 0 := by kernel_rfl
theorem tex67 : extN Go.Proofs.Tryz.prog 67 = 0 := by kernel_rfl
theorem tex68 : extN Go.Proofs.Tryz.prog 68 = 0 := by kernel_rfl
theorem tex69 : extN Go.Proofs.Tryz.prog 69 = 0 := by kernel_rfl
theorem tex70 : extN Go.Proofs.Tryz.prog 70 = 0 := by kernel_rfl
theorem tex71 : extN Go.Proofs.Tryz.prog 71 = 0 := by kernel_rfl
theorem tex72 : extN Go.Proofs.Tryz.prog 72 = 0 := by kernel_rfl
theorem tex73 : extN Go.Proofs.Tryz.prog 73 = 0 := by kernel_rfl
theorem tex74 : extN Go.Proofs.Tryz.prog 74 = 0 := by kernel_rfl
theorem tex75 : extN Go.Proofs.Tryz.prog 75 = 0 := by kernel_rfl
theorem tex76 : extN Go.Proofs.Tryz.prog 76 = 0 := by kernel_rfl
theorem tex77 : extN Go.Proofs.Tryz.prog 77 = 0 := by kernel_rfl
theorem tex78 : extN Go.Proofs.Tryz.prog 78 = 0 := by kernel_rfl
theorem tex79 : extN Go.Proofs.Tryz.prog 79 = 0 := by kernel_rfl
theorem tex80 : extN Go.Proofs.Tryz.prog 80 = 0 := by kernel_rfl
theorem tex81 : extN Go.Proofs.Tryz.prog 81 = 0 := by kernel_rfl
theorem tex82 : extN Go.Proofs.Tryz.prog 82 = 0 := by kernel_rfl
theorem tex83 : extN Go.Proofs.Tryz.prog 83 = 0 := by kernel_rfl
theorem tex84 : extN Go.Proofs.Tryz.prog 84 = 0 := by kernel_rfl
theorem tex85 : extN Go.Proofs.Tryz.prog 85 = 0 := by kernel_rfl
theorem tex86 : extN Go.Proofs.Tryz.prog 86 = 0 := by kernel_rfl
theorem tex87 : extN Go.Proofs.Tryz.prog 87 = 0 := by kernel_rfl
theorem tex88 : extN Go.Proofs.Tryz.prog 88 = 0 := by kernel_rfl
theorem tex89 : extN Go.Proofs.Tryz.prog 89 = 0 := by kernel_rfl
theorem tex90 : extN Go.Proofs.Tryz.prog 90 = 0 := by kernel_rfl
theorem tex91 : extN Go.Proofs.Tryz.prog 91 = 0 := by kernel_rfl
theorem tex92 : extN Go.Proofs.Tryz.prog 92 = 0 := by kernel_rfl
theorem tex93 : extN Go.Proofs.Tryz.prog 93 = 0 := by kernel_rfl
theorem tex94 : extN Go.Proofs.Tryz.prog 94 = 0 := by kernel_rfl
theorem tex95 : extN Go.Proofs.Tryz.prog 95 = 0 := by kernel_rfl
theorem tex96 : extN Go.Proofs.Tryz.prog 96 = 0 := by kernel_rfl
theorem tex97 : extN Go.Proofs.Tryz.prog 97 = 0 := by kernel_rfl
theorem tex98 : extN Go.Proofs.Tryz.prog 98 = 0 := by kernel_rfl
theorem tex99 : extN Go.Proofs.Tryz.prog 99 = 0 := by kernel_rfl
theorem tex100 : extN Go.Proofs.Tryz.prog 100 = 0 := by kernel_rfl
theorem tex101 : extN Go.Proofs.Tryz.prog 101 = 0 := by kernel_rfl
theorem tex102 : extN Go.Proofs.Tryz.prog 102 = 0 := by kernel_rfl
theorem tex103 : extN Go.Proofs.Tryz.prog 103 = 0 := by kernel_rfl
theorem tex104 : extN Go.Proofs.Tryz.prog 104 = 0 := by kernel_rfl
theorem tex105 : extN Go.Proofs.Tryz.prog 105 = 0 := by kernel_rfl
theorem tex106 : extN Go.Proofs.Tryz.prog 106 = 0 := by kernel_rfl
theorem tex107 : extN Go.Proofs.Tryz.prog 107 = 0 := by kernel_rfl
theorem tex108 : extN Go.Proofs.Tryz.prog 108 = 0 := by kernel_rfl
theorem tex109 : extN Go.Proofs.Tryz.prog 109 = 2 := by kernel_rfl
theorem tex110 : extN Go.Proofs.Tryz.prog 110 = 0 := by kernel_rfl
theorem tex111 : extN Go.Proofs.Tryz.prog 111 = 1 := by kernel_rfl
theorem tex112 : extN Go.Proofs.Tryz.prog 112 = 0 := by kernel_rfl
theorem tex113 : extN Go.Proofs.Tryz.prog 113 = 0 := by kernel_rfl
theorem tex114 : extN Go.Proofs.Tryz.prog 114 = 0 := by kernel_rfl
theorem tex115 : extN Go.Proofs.Tryz.prog 115 = 0 := by kernel_rfl
theorem tex116 : extN Go.Proofs.Tryz.prog 116 = 0 := by kernel_rfl
theorem tex117 : extN Go.Proofs.Tryz.prog 117 = 0 := by kernel_rfl
theorem tex118 : extN Go.Proofs.Tryz.prog 118 = 0 := by kernel_rfl
theorem tex119 : extN Go.Proofs.Tryz.prog 119 = 0 := by kernel_rfl
theorem tex120 : extN Go.Proofs.Tryz.prog 120 = 0 := by kernel_rfl
theorem tex121 : extN Go.Proofs.Tryz.prog 121 = 0 := by kernel_rfl
theorem tex122 : extN Go.Proofs.Tryz.prog 122 = 0 := by kernel_rfl
theorem tex123 : extN Go.Proofs.Tryz.prog 123 = 0 := by kernel_rfl
theorem tex124 : extN Go.Proofs.Tryz.prog 124 = 0 := by kernel_rfl
theorem tex125 : extN Go.Proofs.Tryz.prog 125 = 0 := by kernel_rfl
theorem tex126 : extN Go.Proofs.Tryz.prog 126 = 0 := by kernel_rfl
theorem tex127 : extN Go.Proofs.Tryz.prog 127 = 0 := by kernel_rfl
theorem tex128 : extN Go.Proofs.Tryz.prog 128 = 0 := by kernel_rfl
theorem tex129 : extN Go.Proofs.Tryz.prog 129 = 0 := by kernel_rfl
theorem tex130 : extN Go.Proofs.Tryz.prog 130 = 0 := by kernel_rfl
theorem tex131 : extN Go.Proofs.Tryz.prog 131 = 0 := by kernel_rfl
theorem tex132 : extN Go.Proofs.Tryz.prog 132 = 0 := by kernel_rfl
theorem tex133 : extN Go.Proofs.Tryz.prog 133 = 0 := by kernel_rfl
theorem tex134 : extN Go.Proofs.Tryz.prog 134 = 0 := by kernel_rfl
theorem tex135 : extN Go.Proofs.Tryz.prog 135 = 0 := by kernel_rfl
theorem tex136 : extN Go.Proofs.Tryz.prog 136 = 0 := by kernel_rfl
theorem tex137 : extN Go.Proofs.Tryz.prog 137 = 0 := by kernel_rfl
theorem tex138 : extN Go.Proofs.Tryz.prog 138 = 0 := by kernel_rfl
theorem tex139 : extN Go.Proofs.Tryz.prog 139 = 0 := by kernel_rfl
theorem tex140 : extN Go.Proofs.Tryz.prog 140 = 0 := by kernel_rfl
theorem tex141 : extN Go.Proofs.Tryz.prog 141 = 0 := by kernel_rfl
theorem tex142 : extN Go.Proofs.Tryz.prog 142 = 0 := by kernel_rfl
theorem tex143 : extN Go.Proofs.Tryz.prog 143 = 0 := by kernel_rfl
theorem tex144 : extN Go.Proofs.Tryz.prog 144 = 0 := by kernel_rfl
theorem tex145 : extN Go.Proofs.Tryz.prog 145 = 0 := by kernel_rfl
theorem tex146 : extN Go.Proofs.Tryz.prog 146 = 0 := by kernel_rfl
theorem tex147 : extN Go.Proofs.Tryz.prog 147 = 0 := by kernel_rfl
theorem tex148 : extN Go.Proofs.Tryz.prog 148 = 0 := by kernel_rfl
theorem tex149 : extN Go.Proofs.Tryz.prog 149 = 0 := by kernel_rfl
theorem tex150 : extN Go.Proofs.Tryz.prog 150 = 0 := by kernel_rfl
theorem tex151 : extN Go.Proofs.Tryz.prog 151 = 0 := by kernel_rfl
theorem tex152 : extN Go.Proofs.Tryz.prog 152 = 0 := by kernel_rfl
theorem tex153 : extN Go.Proofs.Tryz.prog 153 = 0 := by kernel_rfl
theorem tex154 : extN Go.Proofs.Tryz.prog 154 = 0 := by kernel_rfl
theorem tex155 : extN Go.Proofs.Tryz.prog 155 = 0 := by kernel_rfl
theorem tex156 : extN Go.Proofs.Tryz.prog 156 = 0 := by kernel_rfl
theorem tex157 : extN Go.Proofs.Tryz.prog 157 = 0 := by kernel_rfl
theorem tex158 : extN Go.Proofs.Tryz.prog 158 = 0 := by kernel_rfl
theorem tex159 : extN Go.Proofs.Tryz.prog 159 = 0 := by kernel_rfl
theorem tex160 : extN Go.Proofs.Tryz.prog 160 = 0 := by kernel_rfl
theorem tex161 : extN Go.Proofs.Tryz.prog 161 = 0 := by kernel_rfl
theorem tex162 : extN Go.Proofs.Tryz.prog 162 = 0 := by kernel_rfl
theorem tex163 : extN Go.Proofs.Tryz.prog 163 = 0 := by kernel_rfl
theorem tex164 : extN Go.Proofs.Tryz.prog 164 = 0 := by kernel_rfl
theorem tex165 : extN Go.Proofs.Tryz.prog 165 = 0 := by kernel_rfl
theorem tex166 : extN Go.Proofs.Tryz.prog 166 = 0 := by kernel_rfl
theorem tex167 : extN Go.Proofs.Tryz.prog 167 = 0 := by kernel_rfl
theorem tex168 : extN Go.Proofs.Tryz.prog 168 = 0 := by kernel_rfl
theorem tex169 : extN Go.Proofs.Tryz.prog 169 = 0 := by kernel_rfl
theorem tex170 : extN Go.Proofs.Tryz.prog 170 = 0 := by kernel_rfl
theorem tex171 : extN Go.Proofs.Tryz.prog 171 = 0 := by kernel_rfl
theorem tex172 : extN Go.Proofs.Tryz.prog 172 = 0 := by kernel_rfl
theorem tex173 : extN Go.Proofs.Tryz.prog 173 = 0 := by kernel_rfl
theorem tex174 : extN Go.Proofs.Tryz.prog 174 = 0 := by kernel_rfl
theorem tex175 : extN Go.Proofs.Tryz.prog 175 = 0 := by kernel_rfl
theorem tex176 : extN Go.Proofs.Tryz.prog 176 = 0 := by kernel_rfl
theorem tex177 : extN Go.Proofs.Tryz.prog 177 = 0 := by kernel_rfl
theorem tex178 : extN Go.Proofs.Tryz.prog 178 = 0 := by kernel_rfl
attribute [push_cast] tz1 tzero1 tz2 tzero2 tzv2 tby2 tint2 tstr2 tlf2 tz3 tzero3 tzv3 tby3 tint3 tstr3 tlf3 tz4 tzero4 tzv4 tby4 tlf4 tz5 tzero5 tzv5 tby5 tint5 tstr5 tlf5 tz6 tzero6 tzv6 tby6 tint6 tstr6 tlf6 tz7 tzero7 tzv7 tby7 tpls7 tf7_0 tpl7_0 tf7_1 tpl7_1 tf7_2 tpl7_2 tf7_3 tpl7_3 tz8 tzero8 tzv8 tby8 tpls8 tf8_0 tpl8_0 tf8_1 tpl8_1 tf8_2 tpl8_2 tf8_3 tpl8_3 tz9 tzero9 tzv9 tby9 tstr9 tsl9 tseq9 tlf9 tz10 tzero10 tzv10 tby10 tstr10 tsl10 tseq10 tlf10 tz11 tzero11 tzv11 tby11 tstr11 tsl11 tseq11 tlf11 tz12 tzero12 tzv12 tby12 tint12 tstr12 tlf12 tz13 tzero13 tzv13 tby13 tpls13 tf13_0 tpl13_0 tf13_1 tpl13_1 tz14 tzero14 tzv14 tby14 tpls14 tf14_0 tpl14_0 tf14_1 tpl14_1 tz15 tzero15 tzv15 tby15 tz16 tzero16 tzv16 tby16 tz17 tzero17 tzv17 tby17 tz18 tzero18 tzv18 tby18 tpls18 tf18_0 tpl18_0 tz19 tzero19 tzv19 tby19 tpls19 tf19_0 tpl19_0 tz20 tzero20 tzv20 tby20 tz21 tzero21 tzv21 tby21 tint21 tstr21 tlf21 tz22 tzero22 tzv22 tby22 tel22 tsl22 tstr22 tseq22 tz23 tzero23 tzv23 tby23 tpls23 tf23_0 tpl23_0 tf23_1 tpl23_1 tf23_2 tpl23_2 tf23_3 tpl23_3 tf23_4 tpl23_4 tf23_5 tpl23_5 tf23_6 tpl23_6 tf23_7 tpl23_7 tf23_8 tpl23_8 tz24 tzero24 tzv24 tby24 tst24 tpls24 tf24_0 tpl24_0 tf24_1 tpl24_1 tf24_2 tpl24_2 tf24_3 tpl24_3 tf24_4 tpl24_4 tf24_5 tpl24_5 tf24_6 tpl24_6 tf24_7 tpl24_7 tf24_8 tpl24_8 tz25 tzero25 tz26 tzero26 tzv26 tby26 tint26 tstr26 tlf26 tz27 tzero27 tz28 tzero28 tz29 tzero29 tz31 tzero31 tz32 tzero32 tz33 tzero33 tz34 tzero34 tzv34 tby34 tel34 tsl34 tstr34 tseq34 tz35 tzero35 tzv35 tby35 tel35 tsl35 tstr35 tseq35 tz36 tzero36 tz37 tzero37 tz38 tzero38 tz39 tzero39 tzv39 tby39 tel39 tsl39 tstr39 tseq39 tz40 tzero40 tz41 tzero41 tz42 tzero42 tz43 tzero43 tzv43 tby43 tpls43 tf43_0 tpl43_0 tf43_1 tpl43_1 tz44 tzero44 tzv44 tby44 tst44 tpls44 tf44_0 tpl44_0 tf44_1 tpl44_1 tz45 tzero45 tz47 tzero47 tz48 tzero48 tz49 tzero49 tz50 tzero50 tz51 tzero51 tz53 tzero53 tz54 tzero54 tzv54 tby54 tel54 tsl54 tstr54 tseq54 tz55 tzero55 tz56 tzero56 tz57 tzero57 tz58 tzero58 tz59 tzero59 tz60 tzero60 tz61 tzero61 tz62 tzero62 tzv62 tby62 tz64 tzero64 tzv64 tmap64 tby64 tz65 tzero65 tz66 tzero66 tzv66 tby66 tpls66 tf66_0 tpl66_0 tf66_1 tpl66_1 tf66_2 tpl66_2 tf66_3 tpl66_3 tf66_4 tpl66_4 tz67 tzero67 tzv67 tby67 tst67 tpls67 tf67_0 tpl67_0 tf67_1 tpl67_1 tf67_2 tpl67_2 tf67_3 tpl67_3 tf67_4 tpl67_4 tz68 tzero68 tz69 tzero69 tz70 tzero70 tzv70 tby70 tst70 tpls70 tf70_0 tpl70_0 tf70_1 tpl70_1 tz71 tzero71 tz72 tzero72 tz73 tzero73 tz74 tzero74 tzv74 tby74 tel74 tsl74 tstr74 tseq74 tz75 tzero75 tzv75 tby75 tel75 tsl75 tstr75 tseq75 tz76 tzero76 tz77 tzero77 tz78 tzero78 tzv78 tby78 tel78 tsl78 tstr78 tseq78 tz79 tzero79 tz80 tzero80 tz81 tzero81 tz82 tzero82 tzv82 tby82 tint82 tstr82 tlf82 tz83 tzero83 tz84 tzero84 tz85 tzero85 tzv85 tby85 tel85 tsl85 tstr85 tseq85 tz86 tzero86 tz87 tzero87 tz88 tzero88 tz89 tzero89 tzv89 tby89 tz90 tzero90 tz91 tzero91 tz92 tzero92 tz93 tzero93 tz94 tzero94 tz95 tzero95 tz96 tzero96 tzv96 tby96 tz97 tzero97 tz98 tzero98 tz99 tzero99 tz100 tzero100 tz101 tzero101 tz102 tzero102 tz103 tzero103 tzv103 tby103 tel103 tsl103 tstr103 tseq103 tz104 tzero104 tzv104 tby104 tel104 tsl104 tstr104 tseq104 tz105 tzero105 tz106 tzero106 tzv106 tby106 tel106 tsl106 tstr106 tseq106 tz107 tzero107 tz108 tzero108 tz109 tzero109 tz110 tzero110 tz111 tzero111 tzv111 tby111 tz112 tzero112 tz113 tzero113 tz114 tzero114 tz115 tzero115 tz116 tzero116 tz117 tzero117 tz118 tzero118 tz119 tzero119 tz120 tzero120 tzv120 tby120 tint120 tstr120 tlf120 tz121 tzero121 tz122 tzero122 tzv122 tby122 tel122 tpls122 tpl122_0 tpl122_1 tpl122_2 tz123 tzero123 tz124 tzero124 tz125 tzero125 tzv125 tby125 tint125 tstr125 tlf125 tz126 tzero126 tz127 tzero127 tz128 tzero128 tz130 tzero130 tz131 tzero131 tz132 tzero132 tz133 tzero133 tz134 tzero134 tz135 tzero135 tzv135 tby135 tint135 tstr135 tlf135 tz137 tzero137 tz138 tzero138 tz139 tzero139 tz141 tzero141 tz142 tzero142 tz143 tzero143 tz144 tzero144 tz145 tzero145 tz146 tzero146 tz147 tzero147 tz148 tzero148 tz149 tzero149 tz150 tzero150 tz151 tzero151 tz152 tzero152 tz153 tzero153 tz154 tzero154 tz155 tzero155 tzv155 tby155 tint155 tstr155 tlf155 tz156 tzero156 tz157 tzero157 tz158 tzero158 tz159 tzero159 tzv159 tby159 tz160 tzero160 tz161 tzero161 tz162 tzero162 tz163 tzero163 tz164 tzero164 tz165 tzero165 tz166 tzero166 tz167 tzero167 tz168 tzero168 tzv168 tby168 tz170 tzero170 tz171 tzero171 tz172 tzero172 tz173 tzero173 tz174 tzero174 tz175 tzero175 tz176 tzero176 tzv176 tby176 tpls176 tf176_0 tpl176_0 tf176_1 tpl176_1 tf176_2 tpl176_2 tf176_3 tpl176_3 tz177 tzero177 tzv177 tby177 tpls177 tf177_0 tpl177_0 tf177_1 tpl177_1 tf177_2 tpl177_2 tf177_3 tpl177_3 tz178 tzero178 tzv178 tby178 tel178 tpls178 tz179 tzero179 tzv179 tby179 tpls179 tpl179_0 tz180 tzero180 tzv180 tby180 tpls180 tpl180_0 tz181 tzero181 tz182 tzero182 tzv182 tby182 tint182 tstr182 tlf182 tz183 tzero183 tzv183 tby183 tint183 tstr183 tlf183 tz184 tzero184 tz185 tzero185 tzv185 tby185 tz186 tzero186 tzv186 tby186 tint186 tstr186 tlf186 tz187 tzero187 tzv187 tby187 tint187 tstr187 tlf187 tz188 tzero188 tzv188 tby188 tpls188 tf188_0 tpl188_0 tf188_1 tpl188_1 tf188_2 tpl188_2 tf188_3 tpl188_3 tf188_4 tpl188_4 tf188_5 tpl188_5 tf188_6 tpl188_6 tf188_7 tpl188_7 tf188_8 tpl188_8 tf188_9 tpl188_9 tf188_10 tpl188_10 tz189 tzero189 tzv189 tby189 tpls189 tf189_0 tpl189_0 tf189_1 tpl189_1 tf189_2 tpl189_2 tf189_3 tpl189_3 tf189_4 tpl189_4 tf189_5 tpl189_5 tf189_6 tpl189_6 tf189_7 tpl189_7 tf189_8 tpl189_8 tf189_9 tpl189_9 tf189_10 tpl189_10 tz190 tzero190 tzv190 tby190 tex0 tex1 tex2 tex3 tex4 tex5 tex6 tex7 tex8 tex9 tex10 tex11 tex12 tex13 tex14 tex15 tex16 tex17 tex18 tex19 tex20 tex21 tex22 tex23 tex24 tex25 tex26 tex27 tex28 tex29 tex30 tex31 tex32 tex33 tex34 tex35 tex36 tex37 tex38 tex39 tex40 tex41 tex42 tex43 tex44 tex45 tex46 tex47 tex48 tex49 tex50 tex51 tex52 tex53 tex54 tex55 tex56 tex57 tex58 tex59 tex60 tex61 tex62 tex63 tex64 tex65 tex66 tex67 tex68 tex69 tex70 tex71 tex72 tex73 tex74 tex75 tex76 tex77 tex78 tex79 tex80 tex81 tex82 tex83 tex84 tex85 tex86 tex87 tex88 tex89 tex90 tex91 tex92 tex93 tex94 tex95 tex96 tex97 tex98 tex99 tex100 tex101 tex102 tex103 tex104 tex105 tex106 tex107 tex108 tex109 tex110 tex111 tex112 tex113 tex114 tex115 tex116 tex117 tex118 tex119 tex120 tex121 tex122 tex123 tex124 tex125 tex126 tex127 tex128 tex129 tex130 tex131 tex132 tex133 tex134 tex135 tex136 tex137 tex138 tex139 tex140 tex141 tex142 tex143 tex144 tex145 tex146 tex147 tex148 tex149 tex150 tex151 tex152 tex153 tex154 tex155 tex156 tex157 tex158 tex159 tex160 tex161 tex162 tex163 tex164 tex165 tex166 tex167 tex168 tex169 tex170 tex171 tex172 tex173 tex174 tex175 tex176 tex177 tex178

end Go.Aw

namespace Go.Aw
set_option linter.unusedSimpArgs false
set_option linter.unusedVariables false
open Go.RowKit

variable {F : Fence} {n : Nat} {P : Program}

theorem wpIn_rangeV {g : Operand} {ps : Array Tmp} {assign body : Code} {Q : Exit → Act → World → Prop} {a : Act} {w : World}
    (hro : F.round = none) (h1 : F.depth.isSome = true → 1 ≤ n) {gf : Nat} {lb : Array Value} (hg : a.eval g = .func (.func gf) #[] lb) (hFg : F.fn gf) (eg : ∀ args w, (callFunc gf args).run P w = .ok (.enter gf args) w)
    {encs : Nat → Array Value} {N : Nat} (I : Nat → World → Prop) (hps : ∀ k, (encs k).size = ps.size)
    (hiter : ∀ (l : Nat) (J : Nat → World → Prop) (W : World), (∀ k W, J k W → I k W) →
      (∀ k W1, J k W1 → k < N → YieldAt F (n - 1 - 1) P l (encs k) W1 fun e W' => e = .returned (.bool true) ∧ J (k + 1) W') → J 0 W →
      CallsIn F (n - 1) P gf (#[.func (.yield l) #[] #[]] ++ lb) W fun e W' => (∃ v, e = .returned v) ∧ J N W')
    (hIp : ∀ (k : Nat) (W : World) (l : Nat) (o o' : Obj), I k W → w.heap.size ≤ l → W.heap[l]? = some o → o.isCells = false → I k (W.putObj l o'))
    (h0 : ∀ r : Loop, I 0 ((w.alloc (.deferred (some []))).alloc (.loop r))) (a₁ : Nat → Act)
    (hassign : ∀ (l k : Nat) (W : World) (K : Act → World → Prop), K (a₁ k) W →
      assign.wpIn (F.inRound l) (n - 1 - 1) P (Exit.then K (fun _ _ _ => False)) { tmps := (ps.zip (encs k)).foldl (fun t (p, v) => t.setIfInBounds p v) a.tmps, defers := [] } W)
    (hbody : ∀ (l k : Nat) (W : World), I k W → k < N → body.wpIn (F.inRound l) (n - 1 - 1) P (fun e _ W' => e = .normal ∧ KeepsOthers W W' ∧ I (k + 1) W') (a₁ k) W)
    (hdone : ∀ (D : Nat) (W : World), w.heap.size ≤ D → I N W → W.heap[D]? = some (.deferred (some [])) → Q .normal { a with defers := { target := .collected D, args := #[] } :: a.defers } W) :
    (Code.rangeFunc g ps assign body).wpIn F n P Q a w := by
  refine wpIn_rangeFunc fun fn hfn => ?_
  rw [hro]
  let rc : LoopState → Loop := fun st => { state := st, pending := none, fn, tmps := a.tmps, params := ps, assign, body, defers := w.heap.size }
  have hL : ((w.alloc (.deferred (some []))).alloc (.loop (rc .ready))).heap[w.heap.size + 1]? = some (.loop (rc .ready)) := by
    have := World.alloc_heap_new (w.alloc (.deferred (some []))) (.loop (rc .ready))
    rwa [World.size_alloc] at this
  have hD : ((w.alloc (.deferred (some []))).alloc (.loop (rc .ready))).heap[w.heap.size]? = some (.deferred (some [])) :=
    (Below.heap_alloc _ _ _ (by simp)).trans (World.alloc_heap_new w _)
  generalize hW1 : (w.alloc (.deferred (some []))).alloc (.loop (rc .ready)) = W1 at hL hD
  have hI1 : I 0 W1 := hW1 ▸ h0 _
  refine ⟨w.heap.size + 1, [{ target := .collected w.heap.size, args := #[] }], W1, { target := .fn (.func gf) lb, args := #[.func (.yield (w.heap.size + 1)) #[] #[]] }, W1, gf,
    #[.func (.yield (w.heap.size + 1)) #[] #[]] ++ lb, W1, by rw [← hW1]; exact run_enterLoop_outer _ _ _ _ _, by simp only [resolve, hg]; simp [go_sem], ?_, by simp [invoke, go_sem, eg], h1, ?_⟩
  · intro f' hf'
    simp [Target.leads] at hf'
    subst hf'
    exact hFg
  refine (hiter (w.heap.size + 1) (fun k W => I k W ∧ W.heap[w.heap.size + 1]? = some (.loop (rc .ready)) ∧ W.heap[w.heap.size]? = some (.deferred (some []))) _ (fun _ _ h => h.1) ?_ ⟨hI1, hL, hD⟩).mono ?_
  · -- one round
    rintro k W ⟨hi, hl, hd⟩ hk
    have hlt : w.heap.size + 1 < W.heap.size := (Array.getElem?_eq_some_iff.1 hl).1
    refine ⟨fn, _, assign, body, run_yield hl (hps k), roundIn_of_wpIn hfn (hassign _ k W _ ⟨_, run_beginRound hl rfl, ?_⟩)⟩
    have hl2 : (W.putObj (w.heap.size + 1) (.loop (rc .busy))).heap[w.heap.size + 1]? = some (.loop (rc .busy)) := World.putObj_heap_same hlt
    have hd2 : (W.putObj (w.heap.size + 1) (.loop (rc .busy))).heap[w.heap.size]? = some (.deferred (some [])) := (World.putObj_heap_other (by omega)).trans hd
    refine wpIn_mono (hbody _ k _ (hIp k W _ _ _ hi (by omega) hl rfl) hk) ?_
    rintro e a3 W3 ⟨rfl, hk3, hi3⟩
    have hl3 := hk3.same _ _ hl2 rfl
    have hd3 := hk3.same _ _ hd2 rfl
    refine ⟨_, _, run_endRound none hl3, rfl, hIp _ _ _ _ _ hi3 (by omega) hl3 rfl, ?_, (World.putObj_heap_other (by omega)).trans hd3⟩
    exact World.putObj_heap_same (Array.getElem?_eq_some_iff.1 hl3).1
  · -- behind the function
    rintro e W2 ⟨⟨v, rfl⟩, hi, hl, hd⟩
    exact ⟨none, _, run_endLoop hl (by simp [rc]), hdone _ _ (Nat.le_refl _) (hIp _ _ _ _ _ hi (by omega) hl rfl) ((World.putObj_heap_other (by omega)).trans hd)⟩

end Go.Aw

namespace Go.Aw
set_option linter.unusedSimpArgs false
set_option linter.unusedVariables false
open Go.RowKit

/-- An operation of such a phase: its place, its temporary, what it yields, and the block that it makes. -/
structure It where
  i : Nat
  d : Nat
  v : V
  b : Option Blk

end Go.Aw

namespace Go.Aw
set_option linter.unusedSimpArgs false
set_option linter.unusedVariables false
open Go.RowKit

end Go.Aw

namespace Go.Aw
set_option linter.unusedSimpArgs false
set_option linter.unusedVariables false
open Go.RowKit

variable {P : Program} {ops : Array Oper} {Q : Exit → Act → World → Prop}

/-- The phase's operations, one behind the other, each from the phase's start; then a tree. -/
def ParK (P : Program) (f : FuncId) (ds : List D) (dst : Nat) (s : St) (k : St → Prop) : Prop := ∃ x0, V.bel 0 x0 = true ∧ (PC P f ds fun x H => x = x0 ∧ H = []) ∧ k ⟨tput s.tm dst x0, s.heap⟩
def P3 (P : Program) (ds : Option (List D)) (p : Prop) (f : FuncId) (dst : Nat) (s : St) (k : St → Prop) : Prop := match ds with
  | some ds => p ∧ ParK P f ds dst s k
  | none => False
def P2 (P : Program) (q : Option (Prop × V)) (t : Option (Prop × FuncId × List V)) (dst : Nat) (s : St) (k : St → Prop) : Prop := match q, t with
  | none, some (p, f, args) => P3 P (dVs args) p f dst s k
  | _, _ => False
def PZ (zs : Option (List V)) (dst : Nat) (s : St) (k : St → Prop) : Prop := match zs with
  | some zs => k ⟨tput s.tm dst (.ptr s.heap.length 0 0), s.heap ++ [.cells zs]⟩
  | none => False
def P1 (P : Program) (s0 : St) (op : Op) (dst : Option Nat) (s : St) (k : St → Prop) : Prop := match op, dst with
  | .call c, some d => P2 P (opR P s0 (.call c)) (callT s0 c) d s k
  | .alloc t, some d => PZ (kzero P t) d s k
  | _, _ => False
def P0 (P : Program) (s0 : St) (o : Option Oper) (s : St) (k : St → Prop) : Prop := match o with
  | some o => P1 P s0 o.op o.dst s k
  | none => False
def parRun (P : Program) (kp : List Nat) (ops : Array Oper) (s0 : St) : List Nat → DT → St → (St → Prop) → Prop
  | [], d, s, K => contRun P kp ops (.dt d) s K
  | i :: r, d, s, K => P0 P s0 ops[i]? s fun t => parRun P kp ops s0 r d t K

/-- What is asked where the phase begins. -/
def ParAt (P : Program) (kp : List Nat) (ops : Array Oper) (l : List Nat) (d : DT) (K : St → Prop) (s : St) : Prop := belTm s.heap.length s.tm = true ∧ belHeap s.heap.length s.heap = true ∧ parRun P kp ops s l d s K

section
variable {kp : List Nat} {s0 s : St} {d : DT} {K : St → Prop} {k : St → Prop}
/-- What comes behind an operation of the phase. -/
def ParC (P : Program) (kp : List Nat) (ops : Array Oper) (s0 : St) (r : List Nat) (d : DT) (K : St → Prop) (t : St) : Prop := parRun P kp ops s0 r d t K
theorem parAt_eq {l : List Nat} : ParAt P kp ops l d K s = (belTm s.heap.length s.tm = true ∧ belHeap s.heap.length s.heap = true ∧ parRun P kp ops s l d s K) := rfl
theorem parRun_nil : parRun P kp ops s0 [] d s K = contRun P kp ops (.dt d) s K := rfl
theorem parRun_cons {i : Nat} {r : List Nat} : parRun P kp ops s0 (i :: r) d s K = P0 P s0 ops[i]? s (ParC P kp ops s0 r d K) := rfl
theorem parC_eq {r : List Nat} : ParC P kp ops s0 r d K s = parRun P kp ops s0 r d s K := rfl
theorem P0_some {o : Oper} : P0 P s0 (some o) s k = P1 P s0 o.op o.dst s k := rfl
theorem P1_call {c : Call} {dst : Nat} : P1 P s0 (.call c) (some dst) s k = P2 P (opR P s0 (.call c)) (callT s0 c) dst s k := rfl
theorem P1_alloc {t : TypeId} {dst : Nat} : P1 P s0 (.alloc t) (some dst) s k = PZ (kzero P t) dst s k := rfl
theorem P2_some {p : Prop} {f : FuncId} {args : List V} {dst : Nat} : P2 P none (some (p, f, args)) dst s k = P3 P (dVs args) p f dst s k := rfl
theorem P3_some {ds : List D} {p : Prop} {f : FuncId} {dst : Nat} : P3 P (some ds) p f dst s k = (p ∧ ParK P f ds dst s k) := rfl
theorem PZ_some {zs : List V} {dst : Nat} : PZ (some zs) dst s k = k ⟨tput s.tm dst (.ptr s.heap.length 0 0), s.heap ++ [.cells zs]⟩ := rfl
theorem ParK.pd {f : FuncId} {ds : List D} {dst : Nat} {x0 : V} (h : PD P f ds x0) (hb : V.bel 0 x0 = true) (hk : k ⟨tput s.tm dst x0, s.heap⟩) : ParK P f ds dst s k := ⟨x0, hb, h, hk⟩
end
attribute [push_cast] parAt_eq parRun_nil parRun_cons parC_eq P0_some P1_call P1_alloc P2_some P3_some PZ_some

end Go.Aw
