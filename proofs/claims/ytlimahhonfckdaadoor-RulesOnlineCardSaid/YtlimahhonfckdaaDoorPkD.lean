/-
  Texts of the library, one behind the other. Over any program; no condition.
-/
import Derived.ProofKit
import Derived.Carry
import Derived.Deep.Strs
import Derived.Test.YtlimahhonfckdaaDoorProg
import Derived.KernelRfl
import Derived.Sort.Row
import Derived.Sort.Grow
import Derived.RangeFuncKeeps
import Derived.RangeFuncRecord
import Derived.Test.YtlimahhonfckdaaDoorPkY
import Derived.Test.YtlimahhonfckdaaDoorPkC
namespace Go.Aw
set_option linter.unusedSimpArgs false
set_option linter.unusedVariables false
open Go.RowKit

inductive Deep (H : List Blk) : V → D → Prop where
  | d (x : D) : Deep H (.d x) x
  | nil : Deep H .nil (.sl [])
  | data (id off len k : Nat) (rows : List (List D)) (h : H[id]? = some (.data k rows)) (hl : off + len ≤ rows.length) : Deep H (.ref id off len) (.sl ((rows.drop off).take len))
  | vrs (id k : Nat) (rs : List (List V)) (ds : List (List D)) (h : H[id]? = some (.vrs k rs)) (hl : ds.length = rs.length) (hk : ∀ (i : Nat) (row : List D), ds[i]? = some row → row.length = k)
      (hr : ∀ (i : Nat) (row : List V) (drow : List D) (j : Nat) (x : V) (y : D), rs[i]? = some row → ds[i]? = some drow → row[j]? = some x → drow[j]? = some y → Deep H x y) : Deep H (.ref id 0 rs.length) (.sl ds)
  | agg (xs : List V) (ds : List D) (hl : ds.length = xs.length) (hr : ∀ (j : Nat) (x : V) (y : D), xs[j]? = some x → ds[j]? = some y → Deep H x y) : Deep H (.agg xs) (.agg ds)
  | tup (xs : List V) (ds : List D) (hl : ds.length = xs.length) (hr : ∀ (j : Nat) (x : V) (y : D), xs[j]? = some x → ds[j]? = some y → Deep H x y) : Deep H (.tup xs) (.tup ds)

def allF (E : Env) (F : Nat → Prop) (H : List Blk) (b : Nat) : Prop := F b ∨ own E H b

theorem deep_sound {E : Env} {F : Nat → Prop} {w : World} {H : List Blk} (hr : HR E F w H) {x : V} {d : D} (h : Deep H x d) : ∀ {v : Value}, VR E F w x v → RD (allF E F H) w d v := by
  have up : ∀ {d : D} {v : Value}, RD F w d v → RD (allF E F H) w d v := fun h => h.evo (fun _ h => .inl h) (fun _ _ => rfl)
  induction h with
  | d x => intro v hv; cases hv with | d _ _ h => exact up h
  | nil => intro v hv; cases hv with | nil a => exact .sl0 a 0
  | data id off len k rows hH hl =>
    intro v hv
    cases hv with
    | ref _ _ _ b k' m a cap n hE hm ha hlc hb hc =>
      obtain ⟨h1, h2, h3, h4⟩ := hr.blk _ _ _ hE hH
      dsimp only at h1 h2
      subst h1
      rcases Nat.eq_zero_or_pos len with h0 | hpos
      · subst h0
        rw [List.take_zero]
        exact .sl0 a cap
      · rcases h4 with ⟨h4, _⟩ | ⟨b', cs, t, h4, hw, hsz, hcell⟩
        · cases h4
        · simp only [Option.some.injEq] at h4
          subst h4
          have hlen : ((rows.drop off).take len).length = len := by simp; omega
          rw [ha (.inl hpos)]
          have hget : ∀ (i : Nat) (row : List D), ((rows.drop off).take len)[i]? = some row → i < len ∧ rows[off + i]? = some row := fun i row hi => by
            have hlt := (List.getElem?_eq_some_iff.1 hi).1
            rw [hlen] at hlt
            rw [List.getElem?_take_of_lt hlt, List.getElem?_drop] at hi
            exact ⟨hlt, hi⟩
          have := RD.sl (F := allF E F H) (w := w) b (off * k') cap k' ((rows.drop off).take len) (fun i j => (w.cell? ⟨b, off * k' + (i * k' + j), none⟩).getD undef) (by omega) (.inr ⟨id, _, _, hE, hH, rfl, rfl⟩)
            (fun i row hi => (h3 _ _ (hget i row hi).2).1)
            (fun i j hi hj => by
              have hi' : off + i < rows.length := by omega
              obtain ⟨v, hv, _⟩ := hcell (off + i) rows[off + i] j (rows[off + i][j]'(by rw [(h3 _ _ (List.getElem?_eq_getElem hi')).1]; exact hj)) (List.getElem?_eq_getElem hi') (List.getElem?_eq_getElem _)
              have : w.cell? ⟨b, off * k' + (i * k' + j), none⟩ = some v := by
                rw [show off * k' + (i * k' + j) = (off + i) * k' + j by rw [Nat.add_mul]; omega]
                simp [World.cell?, hw, hv]
              rw [this]; rfl)
            (fun i row j x hi hj => by
              obtain ⟨hi1, hi2⟩ := hget i row hi
              obtain ⟨v, hv, hd⟩ := hcell (off + i) row j x hi2 hj
              have : w.cell? ⟨b, off * k' + (i * k' + j), none⟩ = some v := by
                rw [show off * k' + (i * k' + j) = (off + i) * k' + j by rw [Nat.add_mul]; omega]
                simp [World.cell?, hw, hv]
              rw [this]
              exact up hd)
          rwa [hlen] at this
    | refv _ k' m a hE =>
      rw [List.take_zero]
      exact .sl0 a 0
  | vrs id k rs ds hH hl hk hrr ih =>
    intro v hv
    generalize hn : rs.length = len at hv
    cases hv with
    | ref _ _ _ b k' m a cap n hE hm ha hlc hb hc =>
      obtain ⟨h1, h2, h3, h4⟩ := hr.blk _ _ _ hE hH
      dsimp only at h1 h2
      subst h1
      rcases Nat.eq_zero_or_pos len with h0 | hpos
      · have : ds = [] := List.eq_nil_of_length_eq_zero (by omega)
        subst this
        rw [h0]
        exact .sl0 a cap
      · rcases h4 with ⟨h4, _⟩ | ⟨b', cs, t, h4, hw, hsz, hcell⟩
        · cases h4
        · simp only [Option.some.injEq] at h4
          subst h4
          rw [ha (.inl hpos)]
          have := RD.sl (F := allF E F H) (w := w) b (0 * k') cap k' ds (fun i j => (w.cell? ⟨b, 0 * k' + (i * k' + j), none⟩).getD undef) (by omega) (.inr ⟨id, _, _, hE, hH, rfl, rfl⟩) hk
            (fun i j hi hj => by
              have hi' : i < rs.length := by omega
              obtain ⟨v, hv, _⟩ := hcell i rs[i] j (rs[i][j]'(by rw [h3 _ _ (List.getElem?_eq_getElem hi')]; exact hj)) (List.getElem?_eq_getElem hi') (List.getElem?_eq_getElem _)
              have : w.cell? ⟨b, 0 * k' + (i * k' + j), none⟩ = some v := by simp [World.cell?, hw, hv]
              rw [this]; rfl)
            (fun i row j y hi hj => by
              have hi' : i < rs.length := by have := (List.getElem?_eq_some_iff.1 hi).1; omega
              have hj' : j < rs[i].length := by
                have e1 := (List.getElem?_eq_some_iff.1 hj).1
                rw [h3 _ _ (List.getElem?_eq_getElem hi')]
                have e2 := hk i row hi
                omega
              obtain ⟨v, hv, _, hd⟩ := hcell i rs[i] j rs[i][j] (List.getElem?_eq_getElem hi') (List.getElem?_eq_getElem hj')
              have : w.cell? ⟨b, 0 * k' + (i * k' + j), none⟩ = some v := by simp [World.cell?, hw, hv]
              rw [this]
              exact ih i rs[i] row j rs[i][j] y (List.getElem?_eq_getElem hi') hi (List.getElem?_eq_getElem hj') hj hd)
          rw [show ds.length = len by omega] at this
          exact this
    | refv _ k' m a hE =>
      have : ds = [] := List.eq_nil_of_length_eq_zero (by omega)
      subst this
      exact .sl0 a 0
  | agg xs ds hl hrr ih =>
    intro v hv
    cases hv with
    | agg _ cs hs hr' =>
      refine .agg ds cs (by omega) fun j y v hy hv => ?_
      have hj : j < xs.length := by have := (List.getElem?_eq_some_iff.1 hy).1; omega
      exact ih j xs[j] y (List.getElem?_eq_getElem hj) hy (hr' j _ v (List.getElem?_eq_getElem hj) hv)
  | tup xs ds hl hrr ih =>
    intro v hv
    cases hv with
    | tup _ cs hs hr' =>
      refine .tup ds cs (by omega) fun j y v hy hv => ?_
      have hj : j < xs.length := by have := (List.getElem?_eq_some_iff.1 hy).1; omega
      exact ih j xs[j] y (List.getElem?_eq_getElem hj) hy (hr' j _ v (List.getElem?_eq_getElem hj) hv)

theorem AC.deep {P : Program} {f : FuncId} {args : List V} {H : List Blk} {R : V → List Blk → Prop} {R' : V → List Blk → Prop} (h : AC P f args H [] R) (hR : ∀ x H', R x H' → ∃ d, Deep H' x d ∧ R' (ofD d) []) : AC P f args H [] R' := by
  refine ⟨h.1, fun w cargs E F h1 h2 h3 h4 => (h.2 w cargs E F h1 h2 h3 h4).mono ?_⟩
  rintro e w' ⟨v, x, H', E', F', q1, q2, q3, q4⟩
  obtain ⟨d, r1, r2⟩ := hR x H' q2
  have hd := deep_sound q3.hr r1 q4
  refine ⟨v, ofD d, [], [], allF E' F' H', q1, r2, ⟨q3.os, q3.tape, q3.output, q3.size, fun b hb => .inl (q3.F0 b hb), ?_, q3.same, ?_, ⟨rfl, by simp, by simp, by simp⟩, by simp, by simp, q3.sz⟩, ofD_sound hd⟩
  · rintro b (hb | ⟨id, e, blk, g1, g2, g3, g4⟩)
    · exact q3.only b hb
    · exact .inr (q3.src id b e blk g1 g2 g3 g4)
  · refine q3.lt.evo (fun _ h => .inl h) (fun _ _ => rfl) ?_
    rintro b (hb | ⟨id, e, blk, g1, g2, g3, g4⟩)
    · exact q3.lt b hb
    · exact (q3.hr.free id b e blk g1 g4 g2 g3).1

theorem pdd_of {P : Program} {f : FuncId} {fn : Func} {c : Code} {args : List D} {d0 : D} (rs : List ResultVar) (hf : P.funcs[f]? = some fn) (hb : fn.body = some c)
    (hnm : (fn.name == "runtime.NumGoroutine") = false) (hn : (args.map ofD).length ≤ fn.ntmps) (hok : codeOk fn.ntmps c = true) (hrs : fn.results.toList = rs)
    (h : AWP P [] fn.ntmps c ⟨argTm 0 (args.map ofD), []⟩ (Fin P rs fun x H => Deep H x d0)) : PD P f args (ofD d0) := by
  subst hrs
  exact AC.deep (R := fun x H => Deep H x d0) (ac_of hf hb hnm hn hok h) fun x H' hh => ⟨d0, hh, rfl, rfl⟩

end Go.Aw

namespace Go.Aw
set_option linter.unusedSimpArgs false
set_option linter.unusedVariables false
open Go.ChangeShapes Go.WideShapes Go.ChangeAt Go.RowKit

inductive Ty where
  | int (k : IntKind)
  | bool
  | str
  | sl (e : Ty)
  | st (fs : Ty)
  | unit
  | pair (a b : Ty)
  | arr (n : Nat) (e : Ty)

inductive Fits : Ty → List D → Prop
  | int (k : IntKind) (n : Int) (h : (Lit.int k n).wf = true) : Fits (.int k) [.int k n]
  | bool (b : Bool) : Fits .bool [.bool b]
  | str (s : ByteArray) (h : s.size ≤ reachBytes) : Fits .str [.str s]
  | sl (e : Ty) (rows : List (List D)) (hl : rows.length ≤ reachBytes) (h : ∀ row, row ∈ rows → Fits e row) : Fits (.sl e) [.sl rows]
  | st (fs : Ty) (xs : List D) (h : Fits fs xs) : Fits (.st fs) xs
  | unit : Fits .unit []
  | pair (a b : Ty) (xs ys : List D) (h : Fits a xs) (h' : Fits b ys) : Fits (.pair a b) (xs ++ ys)
  | arr0 (e : Ty) : Fits (.arr 0 e) []
  | arrS (n : Nat) (e : Ty) (xs ys : List D) (h : Fits e xs) (h' : Fits (.arr n e) ys) : Fits (.arr (n + 1) e) (xs ++ ys)

def Ty.is (P : Program) : Ty → TypeId ⊕ (List Field × Nat × Nat) → Bool
  | .int k, .inl t => match P.underlying t with
    | some (.int k') => k' == k
    | _ => false
  | .bool, .inl t => match P.underlying t with
    | some .bool => true
    | _ => false
  | .str, .inl t => match P.underlying t with
    | some .string => true
    | _ => false
  | .sl e, .inl t => match P.underlying t with
    | some (.slice e') => e.is P (.inl e') && decide (0 < P.cellsOf e') && decide (0 < P.bytesOf e')
    | _ => false
  | .st fs, .inl t => match P.underlying t with
    | some (.struct f) => fs.is P (.inr (f.toList, 0, P.cellsOf t))
    | _ => false
  | .arr n e, .inl t => match P.underlying t with
    | some (.array n' e') => n' == n && e.is P (.inl e') && P.cellsOf t == n * P.cellsOf e'
    | _ => false
  | .unit, .inr ([], off, tot) => off == tot
  | .pair a b, .inr (f :: r, off, tot) => f.offset == off && a.is P (.inl f.type) && b.is P (.inr (r, off + P.cellsOf f.type, tot))
  | _, _ => false

def CRL (W : World) (xs : List D) (cs : List Value) : Prop := ∀ (j : Nat) (x : D) (v : Value), xs[j]? = some x → cs[j]? = some v → RD (fun b => b < W.heap.size) W x v

theorem CRL.app {W : World} {xs ys : List D} {cs : List Value} {k : Nat} (h1 : CRL W xs (cs.take k)) (l1 : xs.length = (cs.take k).length) (h2 : CRL W ys (cs.drop k)) (l2 : ys.length = (cs.drop k).length) :
    CRL W (xs ++ ys) cs ∧ (xs ++ ys).length = cs.length := by
  have hs : cs = cs.take k ++ cs.drop k := (List.take_append_drop k cs).symm
  constructor
  · intro j x v hx hv
    rw [hs] at hv
    rw [List.getElem?_append] at hx hv
    rw [l1] at hx
    split at hx
    · rename_i hj
      rw [if_pos hj] at hv
      exact h1 j x v hx hv
    · rename_i hj
      rw [if_neg hj] at hv
      exact h2 _ x v hx hv
  · rw [List.length_append, l1, l2, ← List.length_append, ← hs]

theorem mapM_get {α β : Type} {f : α → Option β} : ∀ {l : List α} {m : List β}, l.mapM f = some m → m.length = l.length ∧ ∀ (i : Nat) (x : α), l[i]? = some x → ∃ y, f x = some y ∧ m[i]? = some y
  | [], m, h => by simp at h; subst h; simp
  | a :: l, m, h => by
    rw [List.mapM_cons] at h
    cases ha : f a with
    | none => simp [ha] at h
    | some y =>
      cases hl : l.mapM f with
      | none => simp [ha, hl] at h
      | some ys =>
        simp [ha, hl] at h
        subst h
        obtain ⟨h1, h2⟩ := mapM_get hl
        refine ⟨by simp [h1], fun i x hx => ?_⟩
        cases i with
        | zero => simp at hx; subst hx; exact ⟨y, ha, rfl⟩
        | succ i => simpa using h2 i x (by simpa using hx)

theorem trod_arr {e : Ty} {W : World} {k : Nat} : ∀ (n : Nat) (cs : List Value), cs.length = n * k →
    (∀ i, i < n → ∃ xs, Fits e xs ∧ xs.length = ((cs.drop (i * k)).take k).length ∧ CRL W xs ((cs.drop (i * k)).take k)) → ∃ xs, Fits (.arr n e) xs ∧ xs.length = cs.length ∧ CRL W xs cs
  | 0, cs, hl, h => by
    have : cs = [] := List.eq_nil_of_length_eq_zero (by omega)
    subst this
    exact ⟨[], .arr0 e, rfl, fun j x v hx => by simp at hx⟩
  | n + 1, cs, hl, h => by
    obtain ⟨xs, h1, h2, h3⟩ := h 0 (by omega)
    simp only [Nat.zero_mul, List.drop_zero] at h2 h3
    have hl' : cs.length = n * k + k := by rw [hl, Nat.add_mul, Nat.one_mul]
    obtain ⟨ys, q1, q2, q3⟩ := trod_arr (e := e) (W := W) (k := k) n (cs.drop k) (by rw [List.length_drop]; omega) (fun i hi => by
      have := h (i + 1) (by omega)
      rw [List.drop_drop]
      rwa [show k + i * k = (i + 1) * k by rw [Nat.add_mul]; omega])
    obtain ⟨c1, c2⟩ := CRL.app h3 h2 q3 q2
    exact ⟨xs ++ ys, .arrS n e xs ys h1 q1, c2, c1⟩

theorem add_spot0 (b off n : Nat) : (⟨b, off, none⟩ : Addr).add n = ⟨b, off + n, none⟩ := by
  simp [Addr.add]

section
variable {H : Type} {enc : TypeId × Value → H} {P : Program} {W : World} {sp : Nat → Bool} {hd : Bool}

def fitsB (l : List Nat) : Prop := l.all (· ≤ reachBytes) = true
theorem fitsB_app {l m : List Nat} (h : fitsB (l ++ m)) : fitsB l ∧ fitsB m := by
  unfold fitsB at h ⊢
  rw [List.all_append, Bool.and_eq_true] at h
  exact h
theorem weights_mem {e : TypeId} : ∀ {ds : List (DataW H)} {d : DataW H}, fitsB (DataW.weightsAll P e ds) → d ∈ ds → fitsB (d.weights P e)
  | [], d, _, h => by cases h
  | c :: ds, d, hw, h => by
    rw [DataW.weightsAll] at hw
    rcases List.mem_cons.1 h with rfl | h
    · exact (fitsB_app hw).1
    · exact weights_mem (fitsB_app hw).2 h
theorem weights_app : ∀ {ts us : List TypeId} {ds gs : List (DataW H)}, ds.length = ts.length → fitsB (DataW.weightsEach P (ts ++ us) (ds ++ gs)) → fitsB (DataW.weightsEach P ts ds)
  | [], us, ds, gs, h, hw => by
    obtain rfl : ds = [] := List.eq_nil_of_length_eq_zero h
    rfl
  | t :: ts, us, [], gs, h, hw => by simp at h
  | t :: ts, us, d :: ds, gs, h, hw => by
    rw [List.cons_append, List.cons_append, DataW.weightsEach] at hw
    rw [DataW.weightsEach]
    have h1 := (fitsB_app hw).1
    have h2 := weights_app (by simpa using h) (fitsB_app hw).2
    unfold fitsB at h1 h2 ⊢
    rw [List.all_append, h1, h2]
    rfl

theorem rd_is : ∀ (ty : Ty) (fuel : Nat),
    (∀ (t : TypeId) (cs : List Value) (x : DataW H × List MemPlace), ty.is P (.inl t) = true → fitsB (x.1.weights P t) → DataW.trod enc P W 0 sp hd fuel t cs = some x → ∃ xs, Fits ty xs ∧ xs.length = cs.length ∧ CRL W xs cs) ∧
    (∀ (fs : List Field) (off tot : Nat) (cs : List Value) (l : List (DataW H × List MemPlace)), ty.is P (.inr (fs, off, tot)) = true → fitsB (DataW.weightsEach P (fs.map (·.type)) (l.map (·.1))) → cs.length = tot →
      fs.mapM (fun f => DataW.trod enc P W 0 sp hd fuel f.type ((cs.drop f.offset).take (P.cellsOf f.type))) = some l → ∃ xs, Fits ty xs ∧ xs.length = (cs.drop off).length ∧ CRL W xs (cs.drop off)) := by
  intro ty
  induction ty with
  | int k =>
    intro fuel
    refine ⟨fun t cs x hty hw h => ?_, fun fs off tot cs l hty => by simp [Ty.is] at hty⟩
    simp only [Ty.is] at hty
    split at hty
    · rename_i k' hu
      have hk : k' = k := by simpa using hty
      subst hk
      obtain ⟨x0, e0, _, e2⟩ := DataW.trod_int hu h
      subst e0
      refine ⟨[.int k' x0], .int _ _ ?_, rfl, fun j y v hy hv => ?_⟩
      · cases fuel with
        | zero => simp [DataW.trod] at h
        | succ n =>
          simp only [DataW.trod, hu] at h
          split at h
          · rename_i hh; exact hh.2
          · cases h
      · match j with
        | 0 => simp at hy hv; subst hy hv; exact .int _ _
        | j + 1 => simp at hy
    · cases hty
  | bool =>
    intro fuel
    refine ⟨fun t cs x hty hw h => ?_, fun fs off tot cs l hty => by simp [Ty.is] at hty⟩
    simp only [Ty.is] at hty
    split at hty
    · rename_i hu
      cases fuel with
      | zero => simp [DataW.trod] at h
      | succ n =>
        unfold DataW.trod at h
        rw [hu] at h
        split at h <;> first | (rename_i h1 _; cases h1; done) | skip
        all_goals try (simp at *; done)
        rename_i b h1
        refine ⟨[.bool b], .bool b, rfl, fun j y v hy hv => ?_⟩
        match j with
        | 0 => simp at hy hv; subst hy hv; exact .bool _
        | j + 1 => simp at hy
    · cases hty
  | str =>
    intro fuel
    refine ⟨fun t cs x hty hw h => ?_, fun fs off tot cs l hty => by simp [Ty.is] at hty⟩
    simp only [Ty.is] at hty
    split at hty
    · rename_i hu
      cases fuel with
      | zero => simp [DataW.trod] at h
      | succ n =>
        unfold DataW.trod at h
        rw [hu] at h
        split at h <;> first | (rename_i h1 _; cases h1; done) | skip
        all_goals try (simp at *; done)
        rename_i s h1
        split at h
        · rename_i hsz
          have hsr : s.size ≤ reachBytes := by
            have e := Option.some.inj h
            rw [← e] at hw
            unfold fitsB at hw
            simpa [DataW.weights] using hw
          refine ⟨[.str s], .str s hsr, rfl, fun j y v hy hv => ?_⟩
          match j with
          | 0 => simp at hy hv; subst hy hv; exact .str _
          | j + 1 => simp at hy
        · cases h
    · cases hty
  | sl e ih =>
    intro fuel
    refine ⟨fun t cs x hty hw h => ?_, fun fs off tot cs l hty => by simp [Ty.is] at hty⟩
    simp only [Ty.is] at hty
    split at hty
    · rename_i e' hu
      simp only [Bool.and_eq_true, decide_eq_true_eq] at hty
      obtain ⟨⟨he, hk⟩, hby⟩ := hty
      rcases DataW.trod_slice hu h with ⟨rfl, _⟩ | ⟨a, len, cap, elems, rest, n, rfl, rfl, rfl, _, hl, hcap, hlen, hel, _⟩
      · refine ⟨[.sl []], .sl e [] (by simp) (by simp), rfl, fun j y v hy hv => ?_⟩
        match j with
        | 0 => simp at hy hv; subst hy hv; exact .sl0 _ _
        | j + 1 => simp at hy
      · have hw2 : (elems.length + rest.length) * P.bytesOf e' ≤ reachBytes ∧ fitsB (DataW.weightsAll P e' (elems.map (·.1))) := by
          unfold fitsB at hw ⊢
          simp only [DataW.weights, hu, List.all_cons, Bool.and_eq_true, List.all_append, decide_eq_true_eq, List.length_map] at hw
          exact ⟨hw.1, hw.2.1⟩
        have hlr : len ≤ reachBytes := by
          have h1 := hw2.1
          have h2 : (elems.length + rest.length) * 1 ≤ (elems.length + rest.length) * P.bytesOf e' := Nat.mul_le_mul_left _ hby
          omega
        have fin : ∀ (rows : List (List D)), Fits (.sl e) [.sl rows] → RD (fun b => b < W.heap.size) W (.sl rows) (.slice (some a) len cap) → ∃ xs, Fits (.sl e) xs ∧ xs.length = [Value.slice (some a) len cap].length ∧ CRL W xs [Value.slice (some a) len cap] := by
          intro rows h1 h2
          refine ⟨_, h1, rfl, fun j y v hy hv => ?_⟩
          match j with
          | 0 => simp at hy hv; subst hy hv; exact h2
          | j + 1 => simp at hy
        rcases Nat.eq_zero_or_pos len with h0 | hpos
        · subst h0
          exact fin [] (.sl e [] (by simp) (by simp)) (.sl0 _ _)
        have hkk : ∃ k, P.cellsOf e' = k ∧ 0 < k := ⟨_, rfl, hk⟩
        obtain ⟨k, hke, hk0⟩ := hkk
        rw [hke] at hel
        have row0 : ∀ i, i < len → ∃ cs, W.cells? 0 (a.add (i * k)) k = some cs ∧ ∃ y, elems[i]? = some y ∧ DataW.trod enc P W 0 sp hd n e' cs = some y := by
          intro i hi
          have h2 := hel i hi
          rw [List.getElem?_eq_getElem (by omega), Option.bind_eq_some_iff] at h2
          obtain ⟨cs, hcs, ht⟩ := h2
          exact ⟨cs, hcs, _, List.getElem?_eq_getElem (by omega), ht⟩
        have hspot : a.spot = none := by
          obtain ⟨cs, hcs, _⟩ := row0 0 hpos
          simp only [World.cells?, Nat.zero_le, if_true, Nat.zero_mul] at hcs
          obtain ⟨_, hg⟩ := mapM_get hcs
          obtain ⟨y, hy, _⟩ := hg 0 0 (by rw [List.getElem?_range hk0])
          simp only [Addr.add, if_true] at hy
          unfold World.cell? at hy
          split at hy
          · split at hy
            · cases hy
            · rename_i hs; simpa using hs
          · cases hy
        obtain ⟨b, off, spo⟩ := a
        simp only at hspot
        subst hspot
        have row1 : ∀ i, i < len → ∃ xs, Fits e xs ∧ xs.length = k ∧ ∀ j, j < k → ∃ v, W.cell? ⟨b, off + (i * k + j), none⟩ = some v ∧ ∀ x, xs[j]? = some x → RD (fun b => b < W.heap.size) W x v := by
          intro i hi
          obtain ⟨cs, hcs, y, hye, hy⟩ := row0 i hi
          simp only [World.cells?, Nat.zero_le, if_true, add_spot0] at hcs
          obtain ⟨hl1, hg⟩ := mapM_get hcs
          rw [List.length_range] at hl1
          obtain ⟨xs, f1, f2, f3⟩ := (ih n).1 e' cs y he (weights_mem hw2.2 (List.mem_map.2 ⟨y, List.mem_of_getElem? hye, rfl⟩)) hy
          refine ⟨xs, f1, by omega, fun j hj => ?_⟩
          obtain ⟨v, hv, hm⟩ := hg j j (by rw [List.getElem?_range hj])
          refine ⟨v, ?_, fun x hx => f3 j x v hx hm⟩
          rw [← hv, Nat.add_assoc]
        have ex : ∃ g : Nat → List D, ∀ i, i < len → Fits e (g i) ∧ (g i).length = k ∧ ∀ j, j < k → ∃ v, W.cell? ⟨b, off + (i * k + j), none⟩ = some v ∧ ∀ x, (g i)[j]? = some x → RD (fun b => b < W.heap.size) W x v :=
          ⟨fun i => if h : i < len then (row1 i h).choose else [], fun i hi => by simp only [hi, dif_pos]; exact (row1 i hi).choose_spec⟩
        obtain ⟨g, hg⟩ := ex
        have hb : b < W.heap.size := by
          obtain ⟨_, _, h1⟩ := hg 0 hpos
          obtain ⟨v, hv, _⟩ := h1 0 hk0
          rcases Nat.lt_or_ge b W.heap.size with h | h
          · exact h
          · simp [World.cell?, Array.getElem?_eq_none h] at hv
        have hrow : ∀ (i : Nat) (row : List D), ((List.range len).map g)[i]? = some row → i < len ∧ row = g i := fun i row hi => by
          simp only [List.getElem?_map, Option.map_eq_some_iff] at hi
          obtain ⟨q, hq, rfl⟩ := hi
          rw [List.getElem?_eq_some_iff] at hq
          obtain ⟨h1, h2⟩ := hq
          simp at h1 h2
          subst h2
          exact ⟨h1, rfl⟩
        have hl' : ((List.range len).map g).length = len := by simp
        have hrd := RD.sl (F := fun b => b < W.heap.size) (w := W) b off cap k ((List.range len).map g) (fun i j => (W.cell? ⟨b, off + (i * k + j), none⟩).getD undef) (by rw [hl']; exact hl) hb
          (fun i row hi => by obtain ⟨h1, rfl⟩ := hrow i row hi; exact (hg i h1).2.1)
          (fun i j hi hj => by
            rw [hl'] at hi
            obtain ⟨v, hv, _⟩ := (hg i hi).2.2 j hj
            rw [hv]; rfl)
          (fun i row j x hi hj => by
            obtain ⟨h1, rfl⟩ := hrow i row hi
            obtain ⟨_, h3, h4⟩ := hg i h1
            have hjk : j < k := by have := (List.getElem?_eq_some_iff.1 hj).1; omega
            obtain ⟨v, hv, h5⟩ := h4 j hjk
            rw [hv]
            exact h5 x hj)
        rw [hl'] at hrd
        refine fin _ (.sl e _ (by rw [hl']; omega) fun row hr => ?_) hrd
        obtain ⟨i, hi, rfl⟩ := List.mem_map.1 hr
        exact (hg i (List.mem_range.1 hi)).1
    · cases hty
  | st fs ih =>
    intro fuel
    refine ⟨fun t cs x hty hw h => ?_, fun fs off tot cs l hty => by simp [Ty.is] at hty⟩
    simp only [Ty.is] at hty
    split at hty
    · rename_i f hu
      cases fuel with
      | zero => simp [DataW.trod] at h
      | succ n =>
        simp only [DataW.trod, hu] at h
        split at h
        · rename_i hl
          simp only [Option.map_eq_some_iff] at h
          obtain ⟨l, hm, hx⟩ := h
          obtain ⟨xs, h1, h2, h3⟩ := (ih n).2 f.toList 0 _ cs l hty (by rw [← hx] at hw; simpa only [DataW.weights, hu] using hw) hl hm
          rw [List.drop_zero] at h2 h3
          exact ⟨xs, .st fs xs h1, h2, h3⟩
        · cases h
    · cases hty
  | unit =>
    intro fuel
    refine ⟨fun t cs x hty hw h => by simp [Ty.is] at hty, fun fs off tot cs l hty hw hl h => ?_⟩
    cases fs with
    | cons f r => simp [Ty.is] at hty
    | nil =>
      simp only [Ty.is, beq_iff_eq] at hty
      refine ⟨[], .unit, ?_, fun j x v hx => by simp at hx⟩
      rw [List.length_drop]; simp; omega
  | pair a b iha ihb =>
    intro fuel
    refine ⟨fun t cs x hty hw h => by simp [Ty.is] at hty, fun fs off tot cs l hty hw hl h => ?_⟩
    cases fs with
    | nil => simp [Ty.is] at hty
    | cons f r =>
      simp only [Ty.is, Bool.and_eq_true, beq_iff_eq] at hty
      obtain ⟨⟨ho, ha⟩, hb⟩ := hty
      rw [List.mapM_cons] at h
      cases h1 : DataW.trod enc P W 0 sp hd fuel f.type ((cs.drop f.offset).take (P.cellsOf f.type)) with
      | none => simp [h1] at h
      | some y =>
        cases h2 : r.mapM (fun f => DataW.trod enc P W 0 sp hd fuel f.type ((cs.drop f.offset).take (P.cellsOf f.type))) with
        | none => simp [h1, h2] at h
        | some ys =>
          rw [h1, h2] at h
          obtain rfl : y :: ys = l := by simpa using h
          rw [List.map_cons, List.map_cons, DataW.weightsEach] at hw
          obtain ⟨xs, q1, q2, q3⟩ := (iha fuel).1 _ _ y ha (fitsB_app hw).1 h1
          obtain ⟨zs, r1, r2, r3⟩ := (ihb fuel).2 r _ tot cs ys hb (fitsB_app hw).2 hl h2
          rw [ho] at q2 q3
          rw [← List.drop_drop] at r2 r3
          obtain ⟨c1, c2⟩ := CRL.app q3 q2 r3 r2
          exact ⟨xs ++ zs, .pair a b xs zs q1 r1, c2, c1⟩
  | arr n e ih =>
    intro fuel
    refine ⟨fun t cs x hty hw h => ?_, fun fs off tot cs l hty => by simp [Ty.is] at hty⟩
    simp only [Ty.is] at hty
    split at hty
    · rename_i n' e' hu
      simp only [Bool.and_eq_true, beq_iff_eq] at hty
      obtain ⟨⟨rfl, he⟩, hcl⟩ := hty
      cases fuel with
      | zero => simp [DataW.trod] at h
      | succ m =>
        simp only [DataW.trod, hu] at h
        split at h
        · rename_i hl
          simp only [Option.map_eq_some_iff] at h
          obtain ⟨l, hm, hx⟩ := h
          rw [← hx] at hw
          have hw2 : fitsB (DataW.weightsAll P e' (l.map (·.1))) := by simpa only [DataW.weights, hu] using hw
          obtain ⟨_, hg⟩ := mapM_get hm
          refine trod_arr (k := P.cellsOf e') n' cs (by omega) fun i hi => ?_
          obtain ⟨y, hy, hyl⟩ := hg i i (by rw [List.getElem?_range hi])
          exact (ih m).1 e' _ y he (weights_mem hw2 (List.mem_map.2 ⟨y, List.mem_of_getElem? hyl, rfl⟩)) hy
        · cases h
    · cases hty

def FitA : Ty → D → Prop
  | .st fs, x => ∃ xs, x = .agg xs ∧ Fits (.st fs) xs
  | .arr n e, x => ∃ xs, x = .agg xs ∧ Fits (.arr n e) xs
  | ty, x => Fits ty [x]

theorem one_of {ty : Ty} {xs : List D} {v : Value} (h : Fits ty xs) (hl : xs.length = [v].length) (hc : CRL W xs [v]) : ∃ x, Fits ty [x] ∧ VR [] (fun b => b < W.heap.size) W (ofD x) v := by
  match xs, hl with
  | [x], _ => exact ⟨x, h, ofD_sound (hc 0 x v rfl rfl)⟩

theorem arg_is {ty : Ty} {t : TypeId} {v : Value} {d : DataW H} {ps : List MemPlace} {base : Nat} (hty : ty.is P (.inl t) = true) (hval : Value.okWide P W .any base t v) (hw : fitsB (d.weights P t)) (h : DataW.Trod enc P W 0 sp hd t v d ps) :
    ∃ x, FitA ty x ∧ VR [] (fun b => b < W.heap.size) W (ofD x) v := by
  obtain ⟨fuel, hf⟩ := h
  obtain ⟨xs, h1, h2, h3⟩ := (rd_is ty fuel).1 t _ _ hty hw hf
  have agg : ∀ cs : Array Value, v = .agg cs → VR [] (fun b => b < W.heap.size) W (ofD (.agg xs)) v := by
    rintro cs rfl
    refine ofD_sound (.agg xs cs (by simpa [Value.cells] using h2.symm) fun j x v hx hv => h3 j x v hx (by simpa [Value.cells] using hv))
  cases ty with
  | st fs =>
    simp only [Ty.is] at hty
    split at hty
    · rename_i f hu
      simp only [Value.okWide, hu] at hval
      obtain ⟨cs, hv, _⟩ := hval
      exact ⟨.agg xs, ⟨xs, rfl, h1⟩, agg cs hv⟩
    · cases hty
  | arr n e =>
    simp only [Ty.is] at hty
    split at hty
    · rename_i n' e' hu
      simp only [Value.okWide, hu] at hval
      obtain ⟨cs, hv, _⟩ := hval
      exact ⟨.agg xs, ⟨xs, rfl, h1⟩, agg cs hv⟩
    · cases hty
  | int k =>
    simp only [Ty.is] at hty
    split at hty
    · rename_i k' hu
      cases v <;> simp only [Value.okWide, hu, Cell.okWide, Cell.ok] at hval
      exact one_of h1 (by simpa [Value.cells] using h2) (by simpa [Value.cells] using h3)
    · cases hty
  | bool =>
    simp only [Ty.is] at hty
    split at hty
    · rename_i hu
      cases v <;> simp only [Value.okWide, hu, Cell.okWide, Cell.ok] at hval
      exact one_of h1 (by simpa [Value.cells] using h2) (by simpa [Value.cells] using h3)
    · cases hty
  | str =>
    simp only [Ty.is] at hty
    split at hty
    · rename_i hu
      cases v <;> simp only [Value.okWide, hu, Cell.okWide, Cell.ok] at hval
      exact one_of h1 (by simpa [Value.cells] using h2) (by simpa [Value.cells] using h3)
    · cases hty
  | sl e =>
    simp only [Ty.is] at hty
    split at hty
    · rename_i e' hu
      obtain ⟨a, len, cap, rfl⟩ := okWide_slice hu hval
      exact one_of h1 (by simpa [Value.cells] using h2) (by simpa [Value.cells] using h3)
    · cases hty
  | unit => simp [Ty.is] at hty
  | pair a b => simp [Ty.is] at hty

def FitAs : List Ty → List D → Prop
  | [], [] => True
  | ty :: tys, x :: xs => FitA ty x ∧ FitAs tys xs
  | _, _ => False
def isAll (P : Program) : List Ty → List TypeId → Bool
  | [], [] => true
  | ty :: tys, t :: ts => ty.is P (.inl t) && isAll P tys ts
  | _, _ => false

theorem args_is {base : Nat} : ∀ {tys : List Ty} {ts : List TypeId} {vs : List Value} {ds : List (DataW H)} {ps : List MemPlace}, isAll P tys ts = true → (∀ (j : Nat) (t : TypeId) (v : Value), ts[j]? = some t → vs[j]? = some v → Value.okWide P W .any base t v) → fitsB (DataW.weightsEach P ts ds) →
    DataW.TrodAll enc P W 0 sp hd ts vs ds ps → ∃ xs, FitAs tys xs ∧ xs.length = vs.length ∧ ∀ (j : Nat) (x : D) (v : Value), xs[j]? = some x → vs[j]? = some v → VR [] (fun b => b < W.heap.size) W (ofD x) v
  | [], [], vs, ds, ps, _, _, _, h => by
    obtain ⟨rfl, _, _⟩ := trodAll_nil h
    exact ⟨[], trivial, rfl, fun j x v hx => by simp at hx⟩
  | [], t :: ts, _, _, _, hty, _, _, _ => by simp [isAll] at hty
  | ty :: tys, [], _, _, _, hty, _, _, _ => by simp [isAll] at hty
  | ty :: tys, t :: ts, vs, ds, ps, hty, hval, hw, h => by
    simp only [isAll, Bool.and_eq_true] at hty
    cases vs with
    | nil => cases ds <;> exact h.elim
    | cons v vs =>
      cases ds with
      | nil => exact h.elim
      | cons d ds =>
        obtain ⟨p, q, h1, h2, _⟩ := h
        rw [DataW.weightsEach] at hw
        obtain ⟨x, f1, f2⟩ := arg_is hty.1 (hval 0 t v rfl rfl) (fitsB_app hw).1 h1
        obtain ⟨xs, g1, g2, g3⟩ := args_is hty.2 (fun j t v ht hv => hval (j + 1) t v (by simpa using ht) (by simpa using hv)) (fitsB_app hw).2 h2
        refine ⟨x :: xs, ⟨f1, g1⟩, by simp [g2], fun j y u hy hu => ?_⟩
        cases j with
        | zero => simp at hy hu; subst hy hu; exact f2
        | succ j => exact g3 j y u (by simpa using hy) (by simpa using hu)

theorem trodAll_len {base : Nat} : ∀ {ts : List TypeId} {vs : List Value} {ds : List (DataW H)} {ps : List MemPlace}, DataW.TrodAll enc P W base sp hd ts vs ds ps → ds.length = ts.length
  | [], vs, ds, ps, h => by obtain ⟨_, rfl, _⟩ := trodAll_nil h; rfl
  | t :: ts, vs, ds, ps, h => by
    cases vs with
    | nil => cases ds <;> exact h.elim
    | cons v vs =>
      cases ds with
      | nil => exact h.elim
      | cons d ds =>
        obtain ⟨p, q, _, h2, _⟩ := h
        simp [trodAll_len h2]

def readAll (P : Program) (ts : List TypeId) : Bool := ts.all fun t => P.readableRec t && decide (t < P.types.size)
theorem trodAll_below {W' : World} (hl : laidOutB P = true) (hb : Below W.heap.size W W') : ∀ {ts : List TypeId} {vs : List Value} {ds : List (DataW H)} {ps : List MemPlace}, readAll P ts = true →
    DataW.TrodAll enc P W 0 (fun _ => true) true ts vs ds ps → (∀ x ∈ ps, x.block < W.heap.size) → DataW.TrodAll enc P W' 0 (fun b => decide (b < W.heap.size)) true ts vs ds ps
  | [], vs, ds, ps, _, h, _ => by
    obtain ⟨rfl, rfl, rfl⟩ := trodAll_nil h
    rfl
  | t :: ts, vs, ds, ps, hr, h, hlt => by
    simp only [readAll, List.all_cons, Bool.and_eq_true, decide_eq_true_eq] at hr
    cases vs with
    | nil => cases ds <;> exact h.elim
    | cons v vs =>
      cases ds with
      | nil => exact h.elim
      | cons d ds =>
        obtain ⟨p, q, h1, h2, rfl⟩ := h
        exact ⟨p, q, Below.trod hl hr.1.1 hr.1.2 h1 hb (fun x hx => hlt x (by simp [hx])), trodAll_below hl hb hr.2 h2 (fun x hx => hlt x (by simp [hx])), rfl⟩

theorem pd_callsG {f : FuncId} {args : List D} {x0 : V} (h : PD P f args x0)
    (hG : FO (fun b => b < W.heap.size) W) {cargs : Array Value} (hc : CR [] (fun b => b < W.heap.size) W (args.map ofD) cargs) :
    Calls P f cargs W fun e W' => ∃ v E' F', e = .returned v ∧ Below W.heap.size W W' ∧ VR E' F' W' x0 v := by
  refine (h.2 W cargs [] (fun b => b < W.heap.size) ⟨rfl, by simp, by simp, by simp⟩ hG (by simp) hc).mono ?_
  rintro e W' ⟨v, x, H', E', F', rfl, ⟨rfl, rfl⟩, hr, hv⟩
  refine ⟨v, E', F', rfl, ⟨hr.os, hr.tape, hr.output.output, hr.size, fun k hk => hr.same k hk ?_⟩, hv⟩
  rintro ⟨id, en, blk, h1, _⟩
  simp at h1

theorem row_true (hl : laidOutB P = true) {f : FuncId} {fn : Func} {s : ChangeSpec} {tys : List Ty} {bt : TypeId} {apart fresh : Bool} (hty : isAll P tys fn.params.toList = true) (hrd : readAll P fn.params.toList = true) (hres : fn.resultTypes = #[bt]) (hbt : P.underlying bt = some .bool)
    (hvars : s.vars = []) (hs : ∀ ds : List (DataW H), ds.length = tys.length → s.fn H ds = { results := [.lit (.bool true)], args := ds }) (h : ∀ xs, FitAs tys xs → PD P f xs (.d (.bool true)))
    (hG : FO (fun b => b < W.heap.size) W)
    {args : Array Value} {ds gs : List (DataW H)} {before : List MemPlace} {base : Nat} (hval : ∀ (j : Nat) (t : TypeId) (v : Value), fn.params[j]? = some t → args[j]? = some v → Value.okWide P W .any base t v)
    (hwt : (DataW.weightsEach P (fn.params.toList ++ s.plain.varTypes P) (ds ++ gs)).all (· ≤ reachBytes) = true)
    (hW : DataW.Whole enc P fn.params.toList s.vars apart W args.toList ds gs before) :
    Calls P f args W fun e W' => ∃ v, e = .returned v ∧ s.post enc P fn apart fresh false false W args v W' := by
  have hW' := hW
  obtain ⟨p, q, hA, hV, hpq, hfz, hnd⟩ := hW
  rw [hvars] at hV
  obtain ⟨rfl, rfl⟩ := trodVars_none hV
  obtain ⟨xs, f1, f2, f3⟩ := args_is hty (fun j t v ht hv => hval j t v (by simpa using ht) (by simpa using hv)) (weights_app (trodAll_len hA) hwt) hA
  refine (pd_callsG (W := W) (h xs f1) hG ⟨by simp [f2], fun j z v hz hv => ?_⟩).mono fun e W' ⟨v, E', F', he, hb, hv⟩ => ?_
  · simp only [List.getElem?_map, Option.map_eq_some_iff] at hz
    obtain ⟨x, hx, rfl⟩ := hz
    exact f3 j x v hx (by simpa using hv)
  subst he
  have hvv := bool_of hv
  subst hvv
  have hlt : ∀ x ∈ p, x.block < W.heap.size := fun x hx => by
    have := hW'.lt x (by rw [hpq]; simp [hx])
    simpa using this
  have hdl : ds.length = tys.length := by
    have h1 := trodAll_len hA
    have h2 : ∀ {tys : List Ty} {ts : List TypeId}, isAll P tys ts = true → tys.length = ts.length := by
      intro tys
      induction tys with
      | nil => intro ts h; cases ts with
        | nil => rfl
        | cons a b => simp [isAll] at h
      | cons a b ih => intro ts h; cases ts with
        | nil => simp [isAll] at h
        | cons c d => simp only [isAll, Bool.and_eq_true] at h; simp [ih h.2]
    rw [h1, h2 hty]
  have hfn := hs ds hdl
  refine ⟨_, rfl, ds, [], before, [], p, [], hW', ?_, ?_, ?_, hb.frame _, fun h => by cases h⟩
  · rw [List.append_nil, hfn, hres]
    exact trodAll_mk1 (shut_bool hbt true)
  · rw [List.append_nil, hfn]
    exact trodAll_below hl hb hrd hA hlt
  · rw [hvars, List.append_nil, hfn]
    rfl

end
end Go.Aw

namespace Go.Aw
set_option linter.unusedSimpArgs false
set_option linter.unusedVariables false
open Go.RowKit

theorem fitAs_cons {t : Ty} {ts : List Ty} {xs : List D} (h : FitAs (t :: ts) xs) : ∃ x r, xs = x :: r ∧ FitA t x ∧ FitAs ts r := by
  cases xs with
  | nil => exact h.elim
  | cons x r => exact ⟨x, r, rfl, h.1, h.2⟩
theorem fitAs_nil {xs : List D} (h : FitAs [] xs) : xs = [] := by
  cases xs with
  | nil => rfl
  | cons x r => exact h.elim

theorem fits_int {k : IntKind} {xs : List D} (h : Fits (.int k) xs) : ∃ n, xs = [.int k n] ∧ (Lit.int k n).wf = true := by
  cases h with | int k n h => exact ⟨n, rfl, h⟩
theorem fits_sl {e : Ty} {xs : List D} (h : Fits (.sl e) xs) : ∃ rows, xs = [.sl rows] ∧ rows.length ≤ reachBytes ∧ ∀ row, row ∈ rows → Fits e row := by
  cases h with | sl e rows hl h => exact ⟨rows, rfl, hl, h⟩
theorem wf_i64 {n : Int} (h : (Lit.int .i64 n).wf = true) : -9223372036854775808 ≤ n ∧ n ≤ 9223372036854775807 := by
  simp only [Lit.wf, IntKind.min, IntKind.max, IntKind.bits, IntKind.signed] at h
  simp at h
  omega

theorem rows_mapP {α : Type} {f : α → List D} {p : α → Prop} : ∀ {rows : List (List D)}, (∀ row, row ∈ rows → ∃ a, row = f a ∧ p a) → ∃ l : List α, rows = l.map f ∧ ∀ a, a ∈ l → p a
  | [], _ => ⟨[], rfl, by simp⟩
  | r :: rows, h => by
    obtain ⟨a, ha, hp⟩ := h r (by simp)
    obtain ⟨l, hl, hq⟩ := rows_mapP (rows := rows) fun row hr => h row (by simp [hr])
    exact ⟨a :: l, by simp [ha, hl], fun b hb => by
      rcases List.mem_cons.1 hb with rfl | hb
      · exact hp
      · exact hq b hb⟩

abbrev ty2 : Ty := .st (.pair (.int .i64) (.pair (.int .i64) .unit))
abbrev ty3 : Ty := .st (.pair (.int .i64) (.pair (.int .i64) (.pair (.int .i64) .unit)))
end Go.Aw

namespace Go.Aw
set_option linter.unusedSimpArgs false
set_option linter.unusedVariables false
open Go.RowKit Go.Proofs

theorem tz1 : ksz Tryd.prog 1 = some (false, 1) := by kernel_rfl
theorem tzero1 : kzero Tryd.prog 1 = some [.d .nilfn] := by kernel_rfl
theorem tcn2 : kconc Tryd.prog 2 = true := by kernel_rfl
theorem tz2 : ksz Tryd.prog 2 = some (false, 1) := by kernel_rfl
theorem tzero2 : kzero Tryd.prog 2 = some [.d (.int .i64 0)] := by kernel_rfl
theorem tzv2 : kzeroV Tryd.prog 2 = some (.d (.int .i64 0)) := by kernel_rfl
theorem tby2 : kbytes Tryd.prog 2 = some 8 := by kernel_rfl
theorem tint2 : kint Tryd.prog 2 = some .i64 := by kernel_rfl
theorem tstr2 : kstr Tryd.prog 2 = false := by kernel_rfl
theorem tlf2 : klf Tryd.prog 2 = 1 := by kernel_rfl
theorem tcn3 : kconc Tryd.prog 3 = true := by kernel_rfl
theorem tz3 : ksz Tryd.prog 3 = some (false, 1) := by kernel_rfl
theorem tzero3 : kzero Tryd.prog 3 = some [.d (.int .i64 0)] := by kernel_rfl
theorem tzv3 : kzeroV Tryd.prog 3 = some (.d (.int .i64 0)) := by kernel_rfl
theorem tby3 : kbytes Tryd.prog 3 = some 8 := by kernel_rfl
theorem tint3 : kint Tryd.prog 3 = some .i64 := by kernel_rfl
theorem tstr3 : kstr Tryd.prog 3 = false := by kernel_rfl
theorem tlf3 : klf Tryd.prog 3 = 1 := by kernel_rfl
theorem tcn4 : kconc Tryd.prog 4 = true := by kernel_rfl
theorem tz4 : ksz Tryd.prog 4 = some (false, 1) := by kernel_rfl
theorem tzero4 : kzero Tryd.prog 4 = some [.d (.bool false)] := by kernel_rfl
theorem tzv4 : kzeroV Tryd.prog 4 = some (.d (.bool false)) := by kernel_rfl
theorem tby4 : kbytes Tryd.prog 4 = some 1 := by kernel_rfl
theorem tlf4 : klf Tryd.prog 4 = 2 := by kernel_rfl
theorem tcn5 : kconc Tryd.prog 5 = true := by kernel_rfl
theorem tz5 : ksz Tryd.prog 5 = some (false, 1) := by kernel_rfl
theorem tzero5 : kzero Tryd.prog 5 = some [.d (.int .u8 0)] := by kernel_rfl
theorem tzv5 : kzeroV Tryd.prog 5 = some (.d (.int .u8 0)) := by kernel_rfl
theorem tby5 : kbytes Tryd.prog 5 = some 1 := by kernel_rfl
theorem tint5 : kint Tryd.prog 5 = some .u8 := by kernel_rfl
theorem tstr5 : kstr Tryd.prog 5 = false := by kernel_rfl
theorem tlf5 : klf Tryd.prog 5 = 1 := by kernel_rfl
theorem tcn6 : kconc Tryd.prog 6 = true := by kernel_rfl
theorem tz6 : ksz Tryd.prog 6 = some (false, 1) := by kernel_rfl
theorem tzero6 : kzero Tryd.prog 6 = some [.d (.int .u8 0)] := by kernel_rfl
theorem tzv6 : kzeroV Tryd.prog 6 = some (.d (.int .u8 0)) := by kernel_rfl
theorem tby6 : kbytes Tryd.prog 6 = some 1 := by kernel_rfl
theorem tint6 : kint Tryd.prog 6 = some .u8 := by kernel_rfl
theorem tstr6 : kstr Tryd.prog 6 = false := by kernel_rfl
theorem tlf6 : klf Tryd.prog 6 = 1 := by kernel_rfl
theorem tcn7 : kconc Tryd.prog 7 = true := by kernel_rfl
theorem tz7 : ksz Tryd.prog 7 = some (true, 4) := by kernel_rfl
theorem tzero7 : kzero Tryd.prog 7 = some [.d (.int .i64 0), .d (.int .i64 0), .d (.bool false), .d (.int .u8 0)] := by kernel_rfl
theorem tzv7 : kzeroV Tryd.prog 7 = some (.agg [.d (.int .i64 0), .d (.int .i64 0), .d (.bool false), .d (.int .u8 0)]) := by kernel_rfl
theorem tby7 : kbytes Tryd.prog 7 = some 24 := by kernel_rfl
theorem tpls7 : kplaces Tryd.prog 7 = true := by kernel_rfl
theorem tf7_0 : kfld Tryd.prog 7 0 = some (0, 2) := by kernel_rfl
theorem tpl7_0 : kplace Tryd.prog 7 0 = some (0, 1) := by kernel_rfl
theorem tf7_1 : kfld Tryd.prog 7 1 = some (1, 3) := by kernel_rfl
theorem tpl7_1 : kplace Tryd.prog 7 1 = some (1, 1) := by kernel_rfl
theorem tf7_2 : kfld Tryd.prog 7 2 = some (2, 4) := by kernel_rfl
theorem tpl7_2 : kplace Tryd.prog 7 2 = some (2, 1) := by kernel_rfl
theorem tf7_3 : kfld Tryd.prog 7 3 = some (3, 6) := by kernel_rfl
theorem tpl7_3 : kplace Tryd.prog 7 3 = some (3, 1) := by kernel_rfl
theorem tcn8 : kconc Tryd.prog 8 = true := by kernel_rfl
theorem tz8 : ksz Tryd.prog 8 = some (true, 4) := by kernel_rfl
theorem tzero8 : kzero Tryd.prog 8 = some [.d (.int .i64 0), .d (.int .i64 0), .d (.bool false), .d (.int .u8 0)] := by kernel_rfl
theorem tzv8 : kzeroV Tryd.prog 8 = some (.agg [.d (.int .i64 0), .d (.int .i64 0), .d (.bool false), .d (.int .u8 0)]) := by kernel_rfl
theorem tby8 : kbytes Tryd.prog 8 = some 24 := by kernel_rfl
theorem tpls8 : kplaces Tryd.prog 8 = true := by kernel_rfl
theorem tf8_0 : kfld Tryd.prog 8 0 = some (0, 2) := by kernel_rfl
theorem tpl8_0 : kplace Tryd.prog 8 0 = some (0, 1) := by kernel_rfl
theorem tf8_1 : kfld Tryd.prog 8 1 = some (1, 3) := by kernel_rfl
theorem tpl8_1 : kplace Tryd.prog 8 1 = some (1, 1) := by kernel_rfl
theorem tf8_2 : kfld Tryd.prog 8 2 = some (2, 4) := by kernel_rfl
theorem tpl8_2 : kplace Tryd.prog 8 2 = some (2, 1) := by kernel_rfl
theorem tf8_3 : kfld Tryd.prog 8 3 = some (3, 6) := by kernel_rfl
theorem tpl8_3 : kplace Tryd.prog 8 3 = some (3, 1) := by kernel_rfl
theorem tcn9 : kconc Tryd.prog 9 = true := by kernel_rfl
theorem tz9 : ksz Tryd.prog 9 = some (false, 1) := by kernel_rfl
theorem tzero9 : kzero Tryd.prog 9 = some [.d (.str ByteArray.empty)] := by kernel_rfl
theorem tzv9 : kzeroV Tryd.prog 9 = some (.d (.str ByteArray.empty)) := by kernel_rfl
theorem tby9 : kbytes Tryd.prog 9 = some 16 := by kernel_rfl
theorem tstr9 : kstr Tryd.prog 9 = true := by kernel_rfl
theorem tsl9 : ksl Tryd.prog 9 = false := by kernel_rfl
theorem tseq9 : kseq Tryd.prog 9 = true := by kernel_rfl
theorem tlf9 : klf Tryd.prog 9 = 3 := by kernel_rfl
theorem tcn22 : kconc Tryd.prog 22 = true := by kernel_rfl
theorem tz22 : ksz Tryd.prog 22 = some (false, 1) := by kernel_rfl
theorem tzero22 : kzero Tryd.prog 22 = some [.nil] := by kernel_rfl
theorem tzv22 : kzeroV Tryd.prog 22 = some (.nil) := by kernel_rfl
theorem tby22 : kbytes Tryd.prog 22 = some 24 := by kernel_rfl
theorem tel22 : kel Tryd.prog 22 = some (none, 6, 44) := by kernel_rfl
theorem tsl22 : ksl Tryd.prog 22 = true := by kernel_rfl
theorem tstr22 : kstr Tryd.prog 22 = false := by kernel_rfl
theorem tseq22 : kseq Tryd.prog 22 = true := by kernel_rfl
theorem tcn23 : kconc Tryd.prog 23 = true := by kernel_rfl
theorem tz23 : ksz Tryd.prog 23 = some (false, 1) := by kernel_rfl
theorem tzero23 : kzero Tryd.prog 23 = some [.nil] := by kernel_rfl
theorem tzv23 : kzeroV Tryd.prog 23 = some (.nil) := by kernel_rfl
theorem tby23 : kbytes Tryd.prog 23 = some 24 := by kernel_rfl
theorem tel23 : kel Tryd.prog 23 = some (none, 1, 50) := by kernel_rfl
theorem tsl23 : ksl Tryd.prog 23 = true := by kernel_rfl
theorem tstr23 : kstr Tryd.prog 23 = false := by kernel_rfl
theorem tseq23 : kseq Tryd.prog 23 = true := by kernel_rfl
theorem tcn28 : kconc Tryd.prog 28 = true := by kernel_rfl
theorem tz28 : ksz Tryd.prog 28 = some (false, 1) := by kernel_rfl
theorem tzero28 : kzero Tryd.prog 28 = some [.d (.int .i64 0)] := by kernel_rfl
theorem tzv28 : kzeroV Tryd.prog 28 = some (.d (.int .i64 0)) := by kernel_rfl
theorem tby28 : kbytes Tryd.prog 28 = some 8 := by kernel_rfl
theorem tint28 : kint Tryd.prog 28 = some .i64 := by kernel_rfl
theorem tstr28 : kstr Tryd.prog 28 = false := by kernel_rfl
theorem tlf28 : klf Tryd.prog 28 = 1 := by kernel_rfl
theorem tcn35 : kconc Tryd.prog 35 = true := by kernel_rfl
theorem tz35 : ksz Tryd.prog 35 = some (false, 1) := by kernel_rfl
theorem tzero35 : kzero Tryd.prog 35 = some [.nil] := by kernel_rfl
theorem tzv35 : kzeroV Tryd.prog 35 = some (.nil) := by kernel_rfl
theorem tby35 : kbytes Tryd.prog 35 = some 24 := by kernel_rfl
theorem tel35 : kel Tryd.prog 35 = some (none, 1, 3) := by kernel_rfl
theorem tsl35 : ksl Tryd.prog 35 = true := by kernel_rfl
theorem tstr35 : kstr Tryd.prog 35 = false := by kernel_rfl
theorem tseq35 : kseq Tryd.prog 35 = true := by kernel_rfl
theorem tcn43 : kconc Tryd.prog 43 = true := by kernel_rfl
theorem tz43 : ksz Tryd.prog 43 = some (true, 6) := by kernel_rfl
theorem tzero43 : kzero Tryd.prog 43 = some [.d (.int .i64 0), .d (.int .i64 0), .d (.int .i64 0), .d (.int .i64 0), .d (.int .i64 0), .d (.int .i64 0)] := by kernel_rfl
theorem tzv43 : kzeroV Tryd.prog 43 = some (.agg [.d (.int .i64 0), .d (.int .i64 0), .d (.int .i64 0), .d (.int .i64 0), .d (.int .i64 0), .d (.int .i64 0)]) := by kernel_rfl
theorem tby43 : kbytes Tryd.prog 43 = some 48 := by kernel_rfl
theorem tpls43 : kplaces Tryd.prog 43 = true := by kernel_rfl
theorem tf43_0 : kfld Tryd.prog 43 0 = some (0, 3) := by kernel_rfl
theorem tpl43_0 : kplace Tryd.prog 43 0 = some (0, 1) := by kernel_rfl
theorem tf43_1 : kfld Tryd.prog 43 1 = some (1, 3) := by kernel_rfl
theorem tpl43_1 : kplace Tryd.prog 43 1 = some (1, 1) := by kernel_rfl
theorem tf43_2 : kfld Tryd.prog 43 2 = some (2, 3) := by kernel_rfl
theorem tpl43_2 : kplace Tryd.prog 43 2 = some (2, 1) := by kernel_rfl
theorem tf43_3 : kfld Tryd.prog 43 3 = some (3, 2) := by kernel_rfl
theorem tpl43_3 : kplace Tryd.prog 43 3 = some (3, 1) := by kernel_rfl
theorem tf43_4 : kfld Tryd.prog 43 4 = some (4, 2) := by kernel_rfl
theorem tpl43_4 : kplace Tryd.prog 43 4 = some (4, 1) := by kernel_rfl
theorem tf43_5 : kfld Tryd.prog 43 5 = some (5, 2) := by kernel_rfl
theorem tpl43_5 : kplace Tryd.prog 43 5 = some (5, 1) := by kernel_rfl
theorem tcn44 : kconc Tryd.prog 44 = true := by kernel_rfl
theorem tz44 : ksz Tryd.prog 44 = some (true, 6) := by kernel_rfl
theorem tzero44 : kzero Tryd.prog 44 = some [.d (.int .i64 0), .d (.int .i64 0), .d (.int .i64 0), .d (.int .i64 0), .d (.int .i64 0), .d (.int .i64 0)] := by kernel_rfl
theorem tzv44 : kzeroV Tryd.prog 44 = some (.agg [.d (.int .i64 0), .d (.int .i64 0), .d (.int .i64 0), .d (.int .i64 0), .d (.int .i64 0), .d (.int .i64 0)]) := by kernel_rfl
theorem tby44 : kbytes Tryd.prog 44 = some 48 := by kernel_rfl
theorem tst44 : kst Tryd.prog 44 = some [(3, 0), (3, 1), (3, 2), (2, 3), (2, 4), (2, 5)] := by kernel_rfl
theorem tpls44 : kplaces Tryd.prog 44 = true := by kernel_rfl
theorem tf44_0 : kfld Tryd.prog 44 0 = some (0, 3) := by kernel_rfl
theorem tpl44_0 : kplace Tryd.prog 44 0 = some (0, 1) := by kernel_rfl
theorem tf44_1 : kfld Tryd.prog 44 1 = some (1, 3) := by kernel_rfl
theorem tpl44_1 : kplace Tryd.prog 44 1 = some (1, 1) := by kernel_rfl
theorem tf44_2 : kfld Tryd.prog 44 2 = some (2, 3) := by kernel_rfl
theorem tpl44_2 : kplace Tryd.prog 44 2 = some (2, 1) := by kernel_rfl
theorem tf44_3 : kfld Tryd.prog 44 3 = some (3, 2) := by kernel_rfl
theorem tpl44_3 : kplace Tryd.prog 44 3 = some (3, 1) := by kernel_rfl
theorem tf44_4 : kfld Tryd.prog 44 4 = some (4, 2) := by kernel_rfl
theorem tpl44_4 : kplace Tryd.prog 44 4 = some (4, 1) := by kernel_rfl
theorem tf44_5 : kfld Tryd.prog 44 5 = some (5, 2) := by kernel_rfl
theorem tpl44_5 : kplace Tryd.prog 44 5 = some (5, 1) := by kernel_rfl
theorem tcn46 : kconc Tryd.prog 46 = true := by kernel_rfl
theorem tz46 : ksz Tryd.prog 46 = some (false, 1) := by kernel_rfl
theorem tzero46 : kzero Tryd.prog 46 = some [.nil] := by kernel_rfl
theorem tzv46 : kzeroV Tryd.prog 46 = some (.nil) := by kernel_rfl
theorem tby46 : kbytes Tryd.prog 46 = some 24 := by kernel_rfl
theorem tel46 : kel Tryd.prog 46 = some (none, 1, 22) := by kernel_rfl
theorem tsl46 : ksl Tryd.prog 46 = true := by kernel_rfl
theorem tstr46 : kstr Tryd.prog 46 = false := by kernel_rfl
theorem tseq46 : kseq Tryd.prog 46 = true := by kernel_rfl
theorem tcn47 : kconc Tryd.prog 47 = true := by kernel_rfl
theorem tz47 : ksz Tryd.prog 47 = some (false, 1) := by kernel_rfl
theorem tzero47 : kzero Tryd.prog 47 = some [.nil] := by kernel_rfl
theorem tzv47 : kzeroV Tryd.prog 47 = some (.nil) := by kernel_rfl
theorem tby47 : kbytes Tryd.prog 47 = some 24 := by kernel_rfl
theorem tel47 : kel Tryd.prog 47 = some (none, 1, 46) := by kernel_rfl
theorem tsl47 : ksl Tryd.prog 47 = true := by kernel_rfl
theorem tstr47 : kstr Tryd.prog 47 = false := by kernel_rfl
theorem tseq47 : kseq Tryd.prog 47 = true := by kernel_rfl
theorem tcn49 : kconc Tryd.prog 49 = true := by kernel_rfl
theorem tz49 : ksz Tryd.prog 49 = some (false, 1) := by kernel_rfl
theorem tzero49 : kzero Tryd.prog 49 = some [.nil] := by kernel_rfl
theorem tzv49 : kzeroV Tryd.prog 49 = some (.nil) := by kernel_rfl
theorem tby49 : kbytes Tryd.prog 49 = some 24 := by kernel_rfl
theorem tel49 : kel Tryd.prog 49 = some (none, 5, 56) := by kernel_rfl
theorem tsl49 : ksl Tryd.prog 49 = true := by kernel_rfl
theorem tstr49 : kstr Tryd.prog 49 = false := by kernel_rfl
theorem tseq49 : kseq Tryd.prog 49 = true := by kernel_rfl
theorem tcn50 : kconc Tryd.prog 50 = true := by kernel_rfl
theorem tz50 : ksz Tryd.prog 50 = some (false, 1) := by kernel_rfl
theorem tzero50 : kzero Tryd.prog 50 = some [.nil] := by kernel_rfl
theorem tzv50 : kzeroV Tryd.prog 50 = some (.nil) := by kernel_rfl
theorem tby50 : kbytes Tryd.prog 50 = some 24 := by kernel_rfl
theorem tel50 : kel Tryd.prog 50 = some (none, 1, 2) := by kernel_rfl
theorem tsl50 : ksl Tryd.prog 50 = true := by kernel_rfl
theorem tstr50 : kstr Tryd.prog 50 = false := by kernel_rfl
theorem tseq50 : kseq Tryd.prog 50 = true := by kernel_rfl
theorem tcn55 : kconc Tryd.prog 55 = true := by kernel_rfl
theorem tz55 : ksz Tryd.prog 55 = some (true, 5) := by kernel_rfl
theorem tzero55 : kzero Tryd.prog 55 = some [.d (.int .i64 0), .d (.int .i64 0), .d (.int .i64 0), .d (.int .i64 0), .d (.int .i64 0)] := by kernel_rfl
theorem tzv55 : kzeroV Tryd.prog 55 = some (.agg [.d (.int .i64 0), .d (.int .i64 0), .d (.int .i64 0), .d (.int .i64 0), .d (.int .i64 0)]) := by kernel_rfl
theorem tby55 : kbytes Tryd.prog 55 = some 40 := by kernel_rfl
theorem tpls55 : kplaces Tryd.prog 55 = true := by kernel_rfl
theorem tf55_0 : kfld Tryd.prog 55 0 = some (0, 3) := by kernel_rfl
theorem tpl55_0 : kplace Tryd.prog 55 0 = some (0, 1) := by kernel_rfl
theorem tf55_1 : kfld Tryd.prog 55 1 = some (1, 2) := by kernel_rfl
theorem tpl55_1 : kplace Tryd.prog 55 1 = some (1, 1) := by kernel_rfl
theorem tf55_2 : kfld Tryd.prog 55 2 = some (2, 2) := by kernel_rfl
theorem tpl55_2 : kplace Tryd.prog 55 2 = some (2, 1) := by kernel_rfl
theorem tf55_3 : kfld Tryd.prog 55 3 = some (3, 2) := by kernel_rfl
theorem tpl55_3 : kplace Tryd.prog 55 3 = some (3, 1) := by kernel_rfl
theorem tf55_4 : kfld Tryd.prog 55 4 = some (4, 2) := by kernel_rfl
theorem tpl55_4 : kplace Tryd.prog 55 4 = some (4, 1) := by kernel_rfl
theorem tcn56 : kconc Tryd.prog 56 = true := by kernel_rfl
theorem tz56 : ksz Tryd.prog 56 = some (true, 5) := by kernel_rfl
theorem tzero56 : kzero Tryd.prog 56 = some [.d (.int .i64 0), .d (.int .i64 0), .d (.int .i64 0), .d (.int .i64 0), .d (.int .i64 0)] := by kernel_rfl
theorem tzv56 : kzeroV Tryd.prog 56 = some (.agg [.d (.int .i64 0), .d (.int .i64 0), .d (.int .i64 0), .d (.int .i64 0), .d (.int .i64 0)]) := by kernel_rfl
theorem tby56 : kbytes Tryd.prog 56 = some 40 := by kernel_rfl
theorem tst56 : kst Tryd.prog 56 = some [(3, 0), (2, 1), (2, 2), (2, 3), (2, 4)] := by kernel_rfl
theorem tpls56 : kplaces Tryd.prog 56 = true := by kernel_rfl
theorem tf56_0 : kfld Tryd.prog 56 0 = some (0, 3) := by kernel_rfl
theorem tpl56_0 : kplace Tryd.prog 56 0 = some (0, 1) := by kernel_rfl
theorem tf56_1 : kfld Tryd.prog 56 1 = some (1, 2) := by kernel_rfl
theorem tpl56_1 : kplace Tryd.prog 56 1 = some (1, 1) := by kernel_rfl
theorem tf56_2 : kfld Tryd.prog 56 2 = some (2, 2) := by kernel_rfl
theorem tpl56_2 : kplace Tryd.prog 56 2 = some (2, 1) := by kernel_rfl
theorem tf56_3 : kfld Tryd.prog 56 3 = some (3, 2) := by kernel_rfl
theorem tpl56_3 : kplace Tryd.prog 56 3 = some (3, 1) := by kernel_rfl
theorem tf56_4 : kfld Tryd.prog 56 4 = some (4, 2) := by kernel_rfl
theorem tpl56_4 : kplace Tryd.prog 56 4 = some (4, 1) := by kernel_rfl
theorem tcn64 : kconc Tryd.prog 64 = true := by kernel_rfl
theorem tz64 : ksz Tryd.prog 64 = some (true, 5) := by kernel_rfl
theorem tzero64 : kzero Tryd.prog 64 = some [.nil, .d (.int .i64 0), .d (.int .i64 0), .nil, .nil] := by kernel_rfl
theorem tzv64 : kzeroV Tryd.prog 64 = some (.agg [.nil, .d (.int .i64 0), .d (.int .i64 0), .nil, .nil]) := by kernel_rfl
theorem tby64 : kbytes Tryd.prog 64 = some 88 := by kernel_rfl
theorem tpls64 : kplaces Tryd.prog 64 = true := by kernel_rfl
theorem tf64_0 : kfld Tryd.prog 64 0 = some (0, 22) := by kernel_rfl
theorem tpl64_0 : kplace Tryd.prog 64 0 = some (0, 1) := by kernel_rfl
theorem tf64_1 : kfld Tryd.prog 64 1 = some (1, 3) := by kernel_rfl
theorem tpl64_1 : kplace Tryd.prog 64 1 = some (1, 1) := by kernel_rfl
theorem tf64_2 : kfld Tryd.prog 64 2 = some (2, 2) := by kernel_rfl
theorem tpl64_2 : kplace Tryd.prog 64 2 = some (2, 1) := by kernel_rfl
theorem tf64_3 : kfld Tryd.prog 64 3 = some (3, 23) := by kernel_rfl
theorem tpl64_3 : kplace Tryd.prog 64 3 = some (3, 1) := by kernel_rfl
theorem tf64_4 : kfld Tryd.prog 64 4 = some (4, 50) := by kernel_rfl
theorem tpl64_4 : kplace Tryd.prog 64 4 = some (4, 1) := by kernel_rfl
theorem tcn65 : kconc Tryd.prog 65 = true := by kernel_rfl
theorem tz65 : ksz Tryd.prog 65 = some (true, 5) := by kernel_rfl
theorem tzero65 : kzero Tryd.prog 65 = some [.nil, .d (.int .i64 0), .d (.int .i64 0), .nil, .nil] := by kernel_rfl
theorem tzv65 : kzeroV Tryd.prog 65 = some (.agg [.nil, .d (.int .i64 0), .d (.int .i64 0), .nil, .nil]) := by kernel_rfl
theorem tby65 : kbytes Tryd.prog 65 = some 88 := by kernel_rfl
theorem tst65 : kst Tryd.prog 65 = some [(22, 0), (3, 1), (2, 2), (23, 3), (50, 4)] := by kernel_rfl
theorem tpls65 : kplaces Tryd.prog 65 = true := by kernel_rfl
theorem tf65_0 : kfld Tryd.prog 65 0 = some (0, 22) := by kernel_rfl
theorem tpl65_0 : kplace Tryd.prog 65 0 = some (0, 1) := by kernel_rfl
theorem tf65_1 : kfld Tryd.prog 65 1 = some (1, 3) := by kernel_rfl
theorem tpl65_1 : kplace Tryd.prog 65 1 = some (1, 1) := by kernel_rfl
theorem tf65_2 : kfld Tryd.prog 65 2 = some (2, 2) := by kernel_rfl
theorem tpl65_2 : kplace Tryd.prog 65 2 = some (2, 1) := by kernel_rfl
theorem tf65_3 : kfld Tryd.prog 65 3 = some (3, 23) := by kernel_rfl
theorem tpl65_3 : kplace Tryd.prog 65 3 = some (3, 1) := by kernel_rfl
theorem tf65_4 : kfld Tryd.prog 65 4 = some (4, 50) := by kernel_rfl
theorem tpl65_4 : kplace Tryd.prog 65 4 = some (4, 1) := by kernel_rfl
theorem tcn68 : kconc Tryd.prog 68 = true := by kernel_rfl
theorem tz68 : ksz Tryd.prog 68 = some (false, 1) := by kernel_rfl
theorem tzero68 : kzero Tryd.prog 68 = some [.nil] := by kernel_rfl
theorem tzv68 : kzeroV Tryd.prog 68 = some (.nil) := by kernel_rfl
theorem tby68 : kbytes Tryd.prog 68 = some 24 := by kernel_rfl
theorem tel68 : kel Tryd.prog 68 = some (none, 2, 72) := by kernel_rfl
theorem tsl68 : ksl Tryd.prog 68 = true := by kernel_rfl
theorem tstr68 : kstr Tryd.prog 68 = false := by kernel_rfl
theorem tseq68 : kseq Tryd.prog 68 = true := by kernel_rfl
theorem tcn71 : kconc Tryd.prog 71 = true := by kernel_rfl
theorem tz71 : ksz Tryd.prog 71 = some (true, 2) := by kernel_rfl
theorem tzero71 : kzero Tryd.prog 71 = some [.d (.int .i64 0), .d (.bool false)] := by kernel_rfl
theorem tzv71 : kzeroV Tryd.prog 71 = some (.agg [.d (.int .i64 0), .d (.bool false)]) := by kernel_rfl
theorem tby71 : kbytes Tryd.prog 71 = some 16 := by kernel_rfl
theorem tpls71 : kplaces Tryd.prog 71 = true := by kernel_rfl
theorem tf71_0 : kfld Tryd.prog 71 0 = some (0, 2) := by kernel_rfl
theorem tpl71_0 : kplace Tryd.prog 71 0 = some (0, 1) := by kernel_rfl
theorem tf71_1 : kfld Tryd.prog 71 1 = some (1, 4) := by kernel_rfl
theorem tpl71_1 : kplace Tryd.prog 71 1 = some (1, 1) := by kernel_rfl
theorem tcn72 : kconc Tryd.prog 72 = true := by kernel_rfl
theorem tz72 : ksz Tryd.prog 72 = some (true, 2) := by kernel_rfl
theorem tzero72 : kzero Tryd.prog 72 = some [.d (.int .i64 0), .d (.bool false)] := by kernel_rfl
theorem tzv72 : kzeroV Tryd.prog 72 = some (.agg [.d (.int .i64 0), .d (.bool false)]) := by kernel_rfl
theorem tby72 : kbytes Tryd.prog 72 = some 16 := by kernel_rfl
theorem tst72 : kst Tryd.prog 72 = some [(2, 0), (4, 1)] := by kernel_rfl
theorem tpls72 : kplaces Tryd.prog 72 = true := by kernel_rfl
theorem tf72_0 : kfld Tryd.prog 72 0 = some (0, 2) := by kernel_rfl
theorem tpl72_0 : kplace Tryd.prog 72 0 = some (0, 1) := by kernel_rfl
theorem tf72_1 : kfld Tryd.prog 72 1 = some (1, 4) := by kernel_rfl
theorem tpl72_1 : kplace Tryd.prog 72 1 = some (1, 1) := by kernel_rfl
theorem tcn73 : kconc Tryd.prog 73 = true := by kernel_rfl
theorem tz73 : ksz Tryd.prog 73 = some (true, 3) := by kernel_rfl
theorem tzero73 : kzero Tryd.prog 73 = some [.nil, .nil, .nil] := by kernel_rfl
theorem tzv73 : kzeroV Tryd.prog 73 = some (.agg [.nil, .nil, .nil]) := by kernel_rfl
theorem tby73 : kbytes Tryd.prog 73 = some 72 := by kernel_rfl
theorem tel73 : kel Tryd.prog 73 = some (some 3, 1, 35) := by kernel_rfl
theorem tpls73 : kplaces Tryd.prog 73 = true := by kernel_rfl
theorem tpl73_0 : kplace Tryd.prog 73 0 = some (0, 1) := by kernel_rfl
theorem tpl73_1 : kplace Tryd.prog 73 1 = some (1, 1) := by kernel_rfl
theorem tpl73_2 : kplace Tryd.prog 73 2 = some (2, 1) := by kernel_rfl
theorem tcn74 : kconc Tryd.prog 74 = true := by kernel_rfl
theorem tz74 : ksz Tryd.prog 74 = some (true, 3) := by kernel_rfl
theorem tzero74 : kzero Tryd.prog 74 = some [.d (.int .i64 0), .d (.int .i64 0), .d (.int .i64 0)] := by kernel_rfl
theorem tzv74 : kzeroV Tryd.prog 74 = some (.agg [.d (.int .i64 0), .d (.int .i64 0), .d (.int .i64 0)]) := by kernel_rfl
theorem tby74 : kbytes Tryd.prog 74 = some 24 := by kernel_rfl
theorem tel74 : kel Tryd.prog 74 = some (some 3, 1, 3) := by kernel_rfl
theorem tpls74 : kplaces Tryd.prog 74 = true := by kernel_rfl
theorem tpl74_0 : kplace Tryd.prog 74 0 = some (0, 1) := by kernel_rfl
theorem tpl74_1 : kplace Tryd.prog 74 1 = some (1, 1) := by kernel_rfl
theorem tpl74_2 : kplace Tryd.prog 74 2 = some (2, 1) := by kernel_rfl
theorem tcn75 : kconc Tryd.prog 75 = true := by kernel_rfl
theorem tz75 : ksz Tryd.prog 75 = some (false, 1) := by kernel_rfl
theorem tzero75 : kzero Tryd.prog 75 = some [.nil] := by kernel_rfl
theorem tzv75 : kzeroV Tryd.prog 75 = some (.nil) := by kernel_rfl
theorem tby75 : kbytes Tryd.prog 75 = some 24 := by kernel_rfl
theorem tel75 : kel Tryd.prog 75 = some (none, 2, 78) := by kernel_rfl
theorem tsl75 : ksl Tryd.prog 75 = true := by kernel_rfl
theorem tstr75 : kstr Tryd.prog 75 = false := by kernel_rfl
theorem tseq75 : kseq Tryd.prog 75 = true := by kernel_rfl
theorem tcn76 : kconc Tryd.prog 76 = true := by kernel_rfl
theorem tz76 : ksz Tryd.prog 76 = some (false, 1) := by kernel_rfl
theorem tzero76 : kzero Tryd.prog 76 = some [.nil] := by kernel_rfl
theorem tzv76 : kzeroV Tryd.prog 76 = some (.nil) := by kernel_rfl
theorem tby76 : kbytes Tryd.prog 76 = some 24 := by kernel_rfl
theorem tel76 : kel Tryd.prog 76 = some (none, 1, 23) := by kernel_rfl
theorem tsl76 : ksl Tryd.prog 76 = true := by kernel_rfl
theorem tstr76 : kstr Tryd.prog 76 = false := by kernel_rfl
theorem tseq76 : kseq Tryd.prog 76 = true := by kernel_rfl
theorem tcn77 : kconc Tryd.prog 77 = true := by kernel_rfl
theorem tz77 : ksz Tryd.prog 77 = some (true, 2) := by kernel_rfl
theorem tzero77 : kzero Tryd.prog 77 = some [.d (.int .i64 0), .nil] := by kernel_rfl
theorem tzv77 : kzeroV Tryd.prog 77 = some (.agg [.d (.int .i64 0), .nil]) := by kernel_rfl
theorem tby77 : kbytes Tryd.prog 77 = some 32 := by kernel_rfl
theorem tpls77 : kplaces Tryd.prog 77 = true := by kernel_rfl
theorem tf77_0 : kfld Tryd.prog 77 0 = some (0, 3) := by kernel_rfl
theorem tpl77_0 : kplace Tryd.prog 77 0 = some (0, 1) := by kernel_rfl
theorem tf77_1 : kfld Tryd.prog 77 1 = some (1, 22) := by kernel_rfl
theorem tpl77_1 : kplace Tryd.prog 77 1 = some (1, 1) := by kernel_rfl
theorem tcn78 : kconc Tryd.prog 78 = true := by kernel_rfl
theorem tz78 : ksz Tryd.prog 78 = some (true, 2) := by kernel_rfl
theorem tzero78 : kzero Tryd.prog 78 = some [.d (.int .i64 0), .nil] := by kernel_rfl
theorem tzv78 : kzeroV Tryd.prog 78 = some (.agg [.d (.int .i64 0), .nil]) := by kernel_rfl
theorem tby78 : kbytes Tryd.prog 78 = some 32 := by kernel_rfl
theorem tst78 : kst Tryd.prog 78 = some [(3, 0), (22, 1)] := by kernel_rfl
theorem tpls78 : kplaces Tryd.prog 78 = true := by kernel_rfl
theorem tf78_0 : kfld Tryd.prog 78 0 = some (0, 3) := by kernel_rfl
theorem tpl78_0 : kplace Tryd.prog 78 0 = some (0, 1) := by kernel_rfl
theorem tf78_1 : kfld Tryd.prog 78 1 = some (1, 22) := by kernel_rfl
theorem tpl78_1 : kplace Tryd.prog 78 1 = some (1, 1) := by kernel_rfl
theorem tcn79 : kconc Tryd.prog 79 = true := by kernel_rfl
theorem tz79 : ksz Tryd.prog 79 = some (true, 9) := by kernel_rfl
theorem tzero79 : kzero Tryd.prog 79 = some [.d (.int .i64 0), .d (.int .i64 0), .d (.int .i64 0), .d (.int .i64 0), .d (.int .i64 0), .d (.int .i64 0), .d (.int .i64 0), .d (.int .i64 0), .d (.int .i64 0)] := by kernel_rfl
theorem tzv79 : kzeroV Tryd.prog 79 = some (.agg [.d (.int .i64 0), .d (.int .i64 0), .d (.int .i64 0), .d (.int .i64 0), .d (.int .i64 0), .d (.int .i64 0), .d (.int .i64 0), .d (.int .i64 0), .d (.int .i64 0)]) := by kernel_rfl
theorem tby79 : kbytes Tryd.prog 79 = some 72 := by kernel_rfl
theorem tel79 : kel Tryd.prog 79 = some (some 3, 3, 74) := by kernel_rfl
theorem tpls79 : kplaces Tryd.prog 79 = true := by kernel_rfl
theorem tpl79_0 : kplace Tryd.prog 79 0 = some (0, 3) := by kernel_rfl
theorem tpl79_1 : kplace Tryd.prog 79 1 = some (3, 3) := by kernel_rfl
theorem tpl79_2 : kplace Tryd.prog 79 2 = some (6, 3) := by kernel_rfl
theorem tcn86 : kconc Tryd.prog 86 = true := by kernel_rfl
theorem tz86 : ksz Tryd.prog 86 = some (false, 1) := by kernel_rfl
theorem tzero86 : kzero Tryd.prog 86 = some [.nil] := by kernel_rfl
theorem tzv86 : kzeroV Tryd.prog 86 = some (.nil) := by kernel_rfl
theorem tby86 : kbytes Tryd.prog 86 = some 24 := by kernel_rfl
theorem tel86 : kel Tryd.prog 86 = some (none, 2, 152) := by kernel_rfl
theorem tsl86 : ksl Tryd.prog 86 = true := by kernel_rfl
theorem tstr86 : kstr Tryd.prog 86 = false := by kernel_rfl
theorem tseq86 : kseq Tryd.prog 86 = true := by kernel_rfl
theorem tcn87 : kconc Tryd.prog 87 = true := by kernel_rfl
theorem tz87 : ksz Tryd.prog 87 = some (true, 3) := by kernel_rfl
theorem tzero87 : kzero Tryd.prog 87 = some [.nil, .nil, .nil] := by kernel_rfl
theorem tzv87 : kzeroV Tryd.prog 87 = some (.agg [.nil, .nil, .nil]) := by kernel_rfl
theorem tby87 : kbytes Tryd.prog 87 = some 72 := by kernel_rfl
theorem tpls87 : kplaces Tryd.prog 87 = true := by kernel_rfl
theorem tf87_0 : kfld Tryd.prog 87 0 = some (0, 22) := by kernel_rfl
theorem tpl87_0 : kplace Tryd.prog 87 0 = some (0, 1) := by kernel_rfl
theorem tf87_1 : kfld Tryd.prog 87 1 = some (1, 86) := by kernel_rfl
theorem tpl87_1 : kplace Tryd.prog 87 1 = some (1, 1) := by kernel_rfl
theorem tf87_2 : kfld Tryd.prog 87 2 = some (2, 50) := by kernel_rfl
theorem tpl87_2 : kplace Tryd.prog 87 2 = some (2, 1) := by kernel_rfl
theorem tcn88 : kconc Tryd.prog 88 = true := by kernel_rfl
theorem tz88 : ksz Tryd.prog 88 = some (true, 3) := by kernel_rfl
theorem tzero88 : kzero Tryd.prog 88 = some [.nil, .nil, .nil] := by kernel_rfl
theorem tzv88 : kzeroV Tryd.prog 88 = some (.agg [.nil, .nil, .nil]) := by kernel_rfl
theorem tby88 : kbytes Tryd.prog 88 = some 72 := by kernel_rfl
theorem tst88 : kst Tryd.prog 88 = some [(22, 0), (86, 1), (50, 2)] := by kernel_rfl
theorem tpls88 : kplaces Tryd.prog 88 = true := by kernel_rfl
theorem tf88_0 : kfld Tryd.prog 88 0 = some (0, 22) := by kernel_rfl
theorem tpl88_0 : kplace Tryd.prog 88 0 = some (0, 1) := by kernel_rfl
theorem tf88_1 : kfld Tryd.prog 88 1 = some (1, 86) := by kernel_rfl
theorem tpl88_1 : kplace Tryd.prog 88 1 = some (1, 1) := by kernel_rfl
theorem tf88_2 : kfld Tryd.prog 88 2 = some (2, 50) := by kernel_rfl
theorem tpl88_2 : kplace Tryd.prog 88 2 = some (2, 1) := by kernel_rfl
theorem tcn93 : kconc Tryd.prog 93 = true := by kernel_rfl
theorem tz93 : ksz Tryd.prog 93 = some (false, 1) := by kernel_rfl
theorem tzero93 : kzero Tryd.prog 93 = some [.d .nilmap] := by kernel_rfl
theorem tzv93 : kzeroV Tryd.prog 93 = some (.d .nilmap) := by kernel_rfl
theorem tmap93 : kmap Tryd.prog 93 = some (152, 3) := by kernel_rfl
theorem tby93 : kbytes Tryd.prog 93 = some 8 := by kernel_rfl
theorem tcn94 : kconc Tryd.prog 94 = true := by kernel_rfl
theorem tz94 : ksz Tryd.prog 94 = some (true, 5) := by kernel_rfl
theorem tzero94 : kzero Tryd.prog 94 = some [.nil, .nil, .nil, .nil, .d .nilmap] := by kernel_rfl
theorem tzv94 : kzeroV Tryd.prog 94 = some (.agg [.nil, .nil, .nil, .nil, .d .nilmap]) := by kernel_rfl
theorem tby94 : kbytes Tryd.prog 94 = some 104 := by kernel_rfl
theorem tpls94 : kplaces Tryd.prog 94 = true := by kernel_rfl
theorem tf94_0 : kfld Tryd.prog 94 0 = some (0, 88) := by kernel_rfl
theorem tpl94_0 : kplace Tryd.prog 94 0 = some (0, 3) := by kernel_rfl
theorem tf94_1 : kfld Tryd.prog 94 1 = some (3, 23) := by kernel_rfl
theorem tpl94_1 : kplace Tryd.prog 94 1 = some (3, 1) := by kernel_rfl
theorem tf94_2 : kfld Tryd.prog 94 2 = some (4, 93) := by kernel_rfl
theorem tpl94_2 : kplace Tryd.prog 94 2 = some (4, 1) := by kernel_rfl
theorem tcn95 : kconc Tryd.prog 95 = true := by kernel_rfl
theorem tz95 : ksz Tryd.prog 95 = some (true, 5) := by kernel_rfl
theorem tzero95 : kzero Tryd.prog 95 = some [.nil, .nil, .nil, .nil, .d .nilmap] := by kernel_rfl
theorem tzv95 : kzeroV Tryd.prog 95 = some (.agg [.nil, .nil, .nil, .nil, .d .nilmap]) := by kernel_rfl
theorem tby95 : kbytes Tryd.prog 95 = some 104 := by kernel_rfl
theorem tst95 : kst Tryd.prog 95 = some [(88, 0), (23, 3), (93, 4)] := by kernel_rfl
theorem tpls95 : kplaces Tryd.prog 95 = true := by kernel_rfl
theorem tf95_0 : kfld Tryd.prog 95 0 = some (0, 88) := by kernel_rfl
theorem tpl95_0 : kplace Tryd.prog 95 0 = some (0, 3) := by kernel_rfl
theorem tf95_1 : kfld Tryd.prog 95 1 = some (3, 23) := by kernel_rfl
theorem tpl95_1 : kplace Tryd.prog 95 1 = some (3, 1) := by kernel_rfl
theorem tf95_2 : kfld Tryd.prog 95 2 = some (4, 93) := by kernel_rfl
theorem tpl95_2 : kplace Tryd.prog 95 2 = some (4, 1) := by kernel_rfl
theorem tz97 : ksz Tryd.prog 97 = some (false, 1) := by kernel_rfl
theorem tzero97 : kzero Tryd.prog 97 = some [.d .nilfn] := by kernel_rfl
theorem tcn99 : kconc Tryd.prog 99 = true := by kernel_rfl
theorem tz99 : ksz Tryd.prog 99 = some (false, 1) := by kernel_rfl
theorem tzero99 : kzero Tryd.prog 99 = some [.d .nilptr] := by kernel_rfl
theorem tzv99 : kzeroV Tryd.prog 99 = some (.d .nilptr) := by kernel_rfl
theorem tby99 : kbytes Tryd.prog 99 = some 8 := by kernel_rfl
theorem tcn100 : kconc Tryd.prog 100 = true := by kernel_rfl
theorem tz100 : ksz Tryd.prog 100 = some (true, 2) := by kernel_rfl
theorem tzero100 : kzero Tryd.prog 100 = some [.nil, .d (.int .i64 0)] := by kernel_rfl
theorem tzv100 : kzeroV Tryd.prog 100 = some (.agg [.nil, .d (.int .i64 0)]) := by kernel_rfl
theorem tby100 : kbytes Tryd.prog 100 = some 32 := by kernel_rfl
theorem tpls100 : kplaces Tryd.prog 100 = true := by kernel_rfl
theorem tf100_0 : kfld Tryd.prog 100 0 = some (0, 35) := by kernel_rfl
theorem tpl100_0 : kplace Tryd.prog 100 0 = some (0, 1) := by kernel_rfl
theorem tf100_1 : kfld Tryd.prog 100 1 = some (1, 3) := by kernel_rfl
theorem tpl100_1 : kplace Tryd.prog 100 1 = some (1, 1) := by kernel_rfl
theorem tcn101 : kconc Tryd.prog 101 = true := by kernel_rfl
theorem tz101 : ksz Tryd.prog 101 = some (true, 2) := by kernel_rfl
theorem tzero101 : kzero Tryd.prog 101 = some [.nil, .d (.int .i64 0)] := by kernel_rfl
theorem tzv101 : kzeroV Tryd.prog 101 = some (.agg [.nil, .d (.int .i64 0)]) := by kernel_rfl
theorem tby101 : kbytes Tryd.prog 101 = some 32 := by kernel_rfl
theorem tst101 : kst Tryd.prog 101 = some [(35, 0), (3, 1)] := by kernel_rfl
theorem tpls101 : kplaces Tryd.prog 101 = true := by kernel_rfl
theorem tf101_0 : kfld Tryd.prog 101 0 = some (0, 35) := by kernel_rfl
theorem tpl101_0 : kplace Tryd.prog 101 0 = some (0, 1) := by kernel_rfl
theorem tf101_1 : kfld Tryd.prog 101 1 = some (1, 3) := by kernel_rfl
theorem tpl101_1 : kplace Tryd.prog 101 1 = some (1, 1) := by kernel_rfl
theorem tz104 : ksz Tryd.prog 104 = some (false, 1) := by kernel_rfl
theorem tzero104 : kzero Tryd.prog 104 = some [.d .nilfn] := by kernel_rfl
theorem tcn107 : kconc Tryd.prog 107 = true := by kernel_rfl
theorem tz107 : ksz Tryd.prog 107 = some (false, 1) := by kernel_rfl
theorem tzero107 : kzero Tryd.prog 107 = some [.nil] := by kernel_rfl
theorem tzv107 : kzeroV Tryd.prog 107 = some (.nil) := by kernel_rfl
theorem tby107 : kbytes Tryd.prog 107 = some 24 := by kernel_rfl
theorem tel107 : kel Tryd.prog 107 = some (none, 1, 9) := by kernel_rfl
theorem tsl107 : ksl Tryd.prog 107 = true := by kernel_rfl
theorem tstr107 : kstr Tryd.prog 107 = false := by kernel_rfl
theorem tseq107 : kseq Tryd.prog 107 = true := by kernel_rfl
theorem tcn108 : kconc Tryd.prog 108 = true := by kernel_rfl
theorem tz108 : ksz Tryd.prog 108 = some (true, 8) := by kernel_rfl
theorem tzero108 : kzero Tryd.prog 108 = some [.d (.str ByteArray.empty), .d (.str ByteArray.empty), .d (.str ByteArray.empty), .d (.str ByteArray.empty), .d (.str ByteArray.empty), .d (.str ByteArray.empty), .d (.str ByteArray.empty), .d (.str ByteArray.empty)] := by kernel_rfl
theorem tzv108 : kzeroV Tryd.prog 108 = some (.agg [.d (.str ByteArray.empty), .d (.str ByteArray.empty), .d (.str ByteArray.empty), .d (.str ByteArray.empty), .d (.str ByteArray.empty), .d (.str ByteArray.empty), .d (.str ByteArray.empty), .d (.str ByteArray.empty)]) := by kernel_rfl
theorem tby108 : kbytes Tryd.prog 108 = some 128 := by kernel_rfl
theorem tel108 : kel Tryd.prog 108 = some (some 8, 1, 9) := by kernel_rfl
theorem tpls108 : kplaces Tryd.prog 108 = true := by kernel_rfl
theorem tpl108_0 : kplace Tryd.prog 108 0 = some (0, 1) := by kernel_rfl
theorem tpl108_1 : kplace Tryd.prog 108 1 = some (1, 1) := by kernel_rfl
theorem tpl108_2 : kplace Tryd.prog 108 2 = some (2, 1) := by kernel_rfl
theorem tpl108_3 : kplace Tryd.prog 108 3 = some (3, 1) := by kernel_rfl
theorem tpl108_4 : kplace Tryd.prog 108 4 = some (4, 1) := by kernel_rfl
theorem tpl108_5 : kplace Tryd.prog 108 5 = some (5, 1) := by kernel_rfl
theorem tpl108_6 : kplace Tryd.prog 108 6 = some (6, 1) := by kernel_rfl
theorem tpl108_7 : kplace Tryd.prog 108 7 = some (7, 1) := by kernel_rfl
theorem tcn116 : kconc Tryd.prog 116 = true := by kernel_rfl
theorem tz116 : ksz Tryd.prog 116 = some (true, 3) := by kernel_rfl
theorem tzero116 : kzero Tryd.prog 116 = some [.d (.int .i64 0), .d (.int .i64 0), .d (.int .i64 0)] := by kernel_rfl
theorem tzv116 : kzeroV Tryd.prog 116 = some (.agg [.d (.int .i64 0), .d (.int .i64 0), .d (.int .i64 0)]) := by kernel_rfl
theorem tby116 : kbytes Tryd.prog 116 = some 24 := by kernel_rfl
theorem tel116 : kel Tryd.prog 116 = some (some 3, 1, 2) := by kernel_rfl
theorem tpls116 : kplaces Tryd.prog 116 = true := by kernel_rfl
theorem tpl116_0 : kplace Tryd.prog 116 0 = some (0, 1) := by kernel_rfl
theorem tpl116_1 : kplace Tryd.prog 116 1 = some (1, 1) := by kernel_rfl
theorem tpl116_2 : kplace Tryd.prog 116 2 = some (2, 1) := by kernel_rfl
theorem tcn122 : kconc Tryd.prog 122 = true := by kernel_rfl
theorem tz122 : ksz Tryd.prog 122 = some (true, 10) := by kernel_rfl
theorem tzero122 : kzero Tryd.prog 122 = some [.d (.int .i64 0), .d (.int .i64 0), .d (.int .i64 0), .d (.int .i64 0), .d (.int .i64 0), .d (.int .i64 0), .d (.int .i64 0), .d (.int .i64 0), .d (.int .i64 0), .d (.int .i64 0)] := by kernel_rfl
theorem tzv122 : kzeroV Tryd.prog 122 = some (.agg [.d (.int .i64 0), .d (.int .i64 0), .d (.int .i64 0), .d (.int .i64 0), .d (.int .i64 0), .d (.int .i64 0), .d (.int .i64 0), .d (.int .i64 0), .d (.int .i64 0), .d (.int .i64 0)]) := by kernel_rfl
theorem tby122 : kbytes Tryd.prog 122 = some 80 := by kernel_rfl
theorem tel122 : kel Tryd.prog 122 = some (some 10, 1, 2) := by kernel_rfl
theorem tpls122 : kplaces Tryd.prog 122 = true := by kernel_rfl
theorem tpl122_0 : kplace Tryd.prog 122 0 = some (0, 1) := by kernel_rfl
theorem tpl122_1 : kplace Tryd.prog 122 1 = some (1, 1) := by kernel_rfl
theorem tpl122_2 : kplace Tryd.prog 122 2 = some (2, 1) := by kernel_rfl
theorem tpl122_3 : kplace Tryd.prog 122 3 = some (3, 1) := by kernel_rfl
theorem tpl122_4 : kplace Tryd.prog 122 4 = some (4, 1) := by kernel_rfl
theorem tpl122_5 : kplace Tryd.prog 122 5 = some (5, 1) := by kernel_rfl
theorem tpl122_6 : kplace Tryd.prog 122 6 = some (6, 1) := by kernel_rfl
theorem tpl122_7 : kplace Tryd.prog 122 7 = some (7, 1) := by kernel_rfl
theorem tcn131 : kconc Tryd.prog 131 = true := by kernel_rfl
theorem tz131 : ksz Tryd.prog 131 = some (false, 1) := by kernel_rfl
theorem tzero131 : kzero Tryd.prog 131 = some [.nil] := by kernel_rfl
theorem tzv131 : kzeroV Tryd.prog 131 = some (.nil) := by kernel_rfl
theorem tby131 : kbytes Tryd.prog 131 = some 24 := by kernel_rfl
theorem tel131 : kel Tryd.prog 131 = some (none, 1, 35) := by kernel_rfl
theorem tsl131 : ksl Tryd.prog 131 = true := by kernel_rfl
theorem tstr131 : kstr Tryd.prog 131 = false := by kernel_rfl
theorem tseq131 : kseq Tryd.prog 131 = true := by kernel_rfl
theorem tcn132 : kconc Tryd.prog 132 = true := by kernel_rfl
theorem tz132 : ksz Tryd.prog 132 = some (false, 1) := by kernel_rfl
theorem tzero132 : kzero Tryd.prog 132 = some [.nil] := by kernel_rfl
theorem tzv132 : kzeroV Tryd.prog 132 = some (.nil) := by kernel_rfl
theorem tby132 : kbytes Tryd.prog 132 = some 24 := by kernel_rfl
theorem tel132 : kel Tryd.prog 132 = some (none, 1, 35) := by kernel_rfl
theorem tsl132 : ksl Tryd.prog 132 = true := by kernel_rfl
theorem tstr132 : kstr Tryd.prog 132 = false := by kernel_rfl
theorem tseq132 : kseq Tryd.prog 132 = true := by kernel_rfl
theorem tz134 : ksz Tryd.prog 134 = some (false, 1) := by kernel_rfl
theorem tzero134 : kzero Tryd.prog 134 = some [.d .nilfn] := by kernel_rfl
theorem tcn141 : kconc Tryd.prog 141 = false := by kernel_rfl
theorem tz141 : ksz Tryd.prog 141 = some (false, 1) := by kernel_rfl
theorem tzero141 : kzero Tryd.prog 141 = some [.d .niliface] := by kernel_rfl
theorem tzv141 : kzeroV Tryd.prog 141 = some (.d .niliface) := by kernel_rfl
theorem tif141 : kif Tryd.prog 141 = true := by kernel_rfl
theorem tby141 : kbytes Tryd.prog 141 = some 16 := by kernel_rfl
theorem tcn142 : kconc Tryd.prog 142 = false := by kernel_rfl
theorem tz142 : ksz Tryd.prog 142 = some (false, 1) := by kernel_rfl
theorem tzero142 : kzero Tryd.prog 142 = some [.d .niliface] := by kernel_rfl
theorem tzv142 : kzeroV Tryd.prog 142 = some (.d .niliface) := by kernel_rfl
theorem tif142 : kif Tryd.prog 142 = true := by kernel_rfl
theorem tby142 : kbytes Tryd.prog 142 = some 16 := by kernel_rfl
theorem tcn152 : kconc Tryd.prog 152 = true := by kernel_rfl
theorem tz152 : ksz Tryd.prog 152 = some (true, 2) := by kernel_rfl
theorem tzero152 : kzero Tryd.prog 152 = some [.d (.int .i64 0), .d (.int .i64 0)] := by kernel_rfl
theorem tzv152 : kzeroV Tryd.prog 152 = some (.agg [.d (.int .i64 0), .d (.int .i64 0)]) := by kernel_rfl
theorem tby152 : kbytes Tryd.prog 152 = some 16 := by kernel_rfl
theorem tel152 : kel Tryd.prog 152 = some (some 2, 1, 3) := by kernel_rfl
theorem tpls152 : kplaces Tryd.prog 152 = true := by kernel_rfl
theorem tpl152_0 : kplace Tryd.prog 152 0 = some (0, 1) := by kernel_rfl
theorem tpl152_1 : kplace Tryd.prog 152 1 = some (1, 1) := by kernel_rfl
theorem tex0 : extN Tryd.prog 0 = 0 := by kernel_rfl
theorem tex1 : extN Tryd.prog 1 = 0 := by kernel_rfl
theorem tex2 : extN Tryd.prog 2 = 0 := by kernel_rfl
theorem tex3 : extN Tryd.prog 3 = 0 := by kernel_rfl
theorem tex4 : extN Tryd.prog 4 = 0 := by kernel_rfl
theorem tex5 : extN Tryd.prog 5 = 0 := by kernel_rfl
theorem tex6 : extN Tryd.prog 6 = 0 := by kernel_rfl
theorem tex7 : extN Tryd.prog 7 = 0 := by kernel_rfl
theorem tex8 : extN Tryd.prog 8 = 0 := by kernel_rfl
theorem tex9 : extN Tryd.prog 9 = 0 := by kernel_rfl
theorem tex10 : extN Tryd.prog 10 = 0 := by kernel_rfl
theorem tex11 : extN Tryd.prog 11 = 0 := by kernel_rfl
theorem tex12 : extN Tryd.prog 12 = 0 := by kernel_rfl
theorem tex13 : extN Tryd.prog 13 = 0 := by kernel_rfl
theorem tex14 : extN Tryd.prog 14 = 0 := by kernel_rfl
theorem tex15 : extN Tryd.prog 15 = 0 := by kernel_rfl
theorem tex16 : extN Tryd.prog 16 = 0 := by kernel_rfl
theorem tex17 : extN Tryd.prog 17 = 0 := by kernel_rfl
theorem tex18 : extN Tryd.prog 18 = 0 := by kernel_rfl
theorem tex19 : extN Tryd.prog 19 = 0 := by kernel_rfl
theorem tex20 : extN Tryd.prog 20 = 0 := by kernel_rfl
theorem tex21 : extN Tryd.prog 21 = 0 := by kernel_rfl
theorem tex22 : extN Tryd.prog 22 = 0 := by kernel_rfl
theorem tex23 : extN Tryd.prog 23 = 0 := by kernel_rfl
theorem tex24 : extN Tryd.prog 24 = 0 := by kernel_rfl
theorem tex25 : extN Tryd.prog 25 = 0 := by kernel_rfl
theorem tex26 : extN Tryd.prog 26 = 0 := by kernel_rfl
theorem tex27 : extN Tryd.prog 27 = 0 := by kernel_rfl
theorem tex28 : extN Tryd.prog 28 = 0 := by kernel_rfl
theorem tex29 : extN Tryd.prog 29 = 0 := by kernel_rfl
theorem tex30 : extN Tryd.prog 30 = 0 := by kernel_rfl
theorem tex31 : extN Tryd.prog 31 = 0 := by kernel_rfl
theorem tex32 : extN Tryd.prog 32 = 0 := by kernel_rfl
theorem tex33 : extN Tryd.prog 33 = 0 := by kernel_rfl
theorem tex34 : extN Tryd.prog 34 = 0 := by kernel_rfl
theorem tex35 : extN Tryd.prog 35 = 0 := by kernel_rfl
theorem tex36 : extN Tryd.prog 36 = 0 := by kernel_rfl
theorem tex37 : extN Tryd.prog 37 = 0 := by kernel_rfl
theorem tex38 : extN Tryd.prog 38 = 0 := by kernel_rfl
theorem tex39 : extN Tryd.prog 39 = 0 := by kernel_rfl
theorem tex40 : extN Tryd.prog 40 = 0 := by kernel_rfl
theorem tex41 : extN Tryd.prog 41 = 0 := by kernel_rfl
theorem tex42 : extN Tryd.prog 42 = 0 := by kernel_rfl
theorem tex43 : extN Tryd.prog 43 = 0 := by kernel_rfl
theorem tex44 : extN Tryd.prog 44 = 0 := by kernel_rfl
theorem tex45 : extN Tryd.prog 45 = 0 := by kernel_rfl
theorem tex46 : extN Tryd.prog 46 = 0 := by kernel_rfl
theorem tex47 : extN Tryd.prog 47 = 0 := by kernel_rfl
theorem tex48 : extN Tryd.prog 48 = 0 := by kernel_rfl
theorem tex49 : extN Tryd.prog 49 = 0 := by kernel_rfl
theorem tex50 : extN Tryd.prog 50 = 0 := by kernel_rfl
theorem tex51 : extN Tryd.prog 51 = 0 := by kernel_rfl
theorem tex52 : extN Tryd.prog 52 = 0 := by kernel_rfl
theorem tex53 : extN Tryd.prog 53 = 0 := by kernel_rfl
theorem tex54 : extN Tryd.prog 54 = 0 := by kernel_rfl
theorem tex55 : extN Tryd.prog 55 = 0 := by kernel_rfl
theorem tex56 : extN Tryd.prog 56 = 0 := by kernel_rfl
theorem tex57 : extN Tryd.prog 57 = 0 := by kernel_rfl
theorem tex58 : extN Tryd.prog 58 = 0 := by kernel_rfl
theorem tex59 : extN Tryd.prog 59 = 0 := by kernel_rfl
theorem tex60 : extN Tryd.prog 60 = 0 := by kernel_rfl
theorem tex61 : extN Tryd.prog 61 = 0 := by kernel_rfl
theorem tex62 : extN Tryd.prog 62 = 0 := by kernel_rfl
theorem tex63 : extN Tryd.prog 63 = 0 := by kernel_rfl
theorem tex64 : extN Tryd.prog 64 = 0 := by kernel_rfl
theorem tex65 : extN Tryd.prog 65 = 0 := by kernel_rfl
theorem tex66 : extN Tryd.prog 66 = 0 := by kernel_rfl
theorem tex67 : extN Tryd.prog 67 = 0 := by kernel_rfl
theorem tex68 : extN Tryd.prog 68 = 0 := by kernel_rfl
theorem tex69 : extN Tryd.prog 69 = 0 := by kernel_rfl
theorem tex70 : extN Tryd.prog 70 = 0 := by kernel_rfl
theorem tex71 : extN Tryd.prog 71 = 0 := by kernel_rfl
theorem tex72 : extN Tryd.prog 72 = 0 := by kernel_rfl
theorem tex73 : extN Tryd.prog 73 = 0 := by kernel_rfl
theorem tex74 : extN Tryd.prog 74 = 0 := by kernel_rfl
theorem tex75 : extN Tryd.prog 75 = 0 := by kernel_rfl
theorem tex76 : extN Tryd.prog 76 = 0 := by kernel_rfl
theorem tex77 : extN Tryd.prog 77 = 0 := by kernel_rfl
theorem tex78 : extN Tryd.prog 78 = 0 := by kernel_rfl
theorem tex79 : extN Tryd.prog 79 = 0 := by kernel_rfl
theorem tex80 : extN Tryd.prog 80 = 0 := by kernel_rfl
theorem tex81 : extN Tryd.prog 81 = 0 := by kernel_rfl
theorem tex82 : extN Tryd.prog 82 = 0 := by kernel_rfl
theorem tex83 : extN Tryd.prog 83 = 0 := by kernel_rfl
theorem tex84 : extN Tryd.prog 84 = 0 := by kernel_rfl
theorem tex85 : extN Tryd.prog 85 = 0 := by kernel_rfl
theorem tex86 : extN Tryd.prog 86 = 0 := by kernel_rfl
theorem tex87 : extN Tryd.prog 87 = 0 := by kernel_rfl
theorem tex88 : extN Tryd.prog 88 = 0 := by kernel_rfl
theorem tex89 : extN Tryd.prog 89 = 0 := by kernel_rfl
theorem tex90 : extN Tryd.prog 90 = 0 := by kernel_rfl
theorem tex91 : extN Tryd.prog 91 = 0 := by kernel_rfl
theorem tex92 : extN Tryd.prog 92 = 0 := by kernel_rfl
theorem tex93 : extN Tryd.prog 93 = 0 := by kernel_rfl
theorem tex94 : extN Tryd.prog 94 = 0 := by kernel_rfl
theorem tex95 : extN Tryd.prog 95 = 0 := by kernel_rfl
theorem tex96 : extN Tryd.prog 96 = 0 := by kernel_rfl
theorem tex97 : extN Tryd.prog 97 = 0 := by kernel_rfl
theorem tex98 : extN Tryd.prog 98 = 0 := by kernel_rfl
theorem tex99 : extN Tryd.prog 99 = 0 := by kernel_rfl
theorem tex100 : extN Tryd.prog 100 = 0 := by kernel_rfl
theorem tex101 : extN Tryd.prog 101 = 0 := by kernel_rfl
theorem tex102 : extN Tryd.prog 102 = 0 := by kernel_rfl
theorem tex103 : extN Tryd.prog 103 = 0 := by kernel_rfl
theorem tex104 : extN Tryd.prog 104 = 0 := by kernel_rfl
theorem tex105 : extN Tryd.prog 105 = 0 := by kernel_rfl
theorem tex106 : extN Tryd.prog 106 = 0 := by kernel_rfl
theorem tex107 : extN Tryd.prog 107 = 0 := by kernel_rfl
theorem tex108 : extN Tryd.prog 108 = 0 := by kernel_rfl
theorem tex109 : extN Tryd.prog 109 = 0 := by kernel_rfl
theorem tex110 : extN Tryd.prog 110 = 0 := by kernel_rfl
theorem tex111 : extN Tryd.prog 111 = 0 := by kernel_rfl
theorem tex112 : extN Tryd.prog 112 = 0 := by kernel_rfl
theorem tex113 : extN Tryd.prog 113 = 0 := by kernel_rfl
theorem tex114 : extN Tryd.prog 114 = 0 := by kernel_rfl
theorem tex115 : extN Tryd.prog 115 = 0 := by kernel_rfl
theorem tex116 : extN Tryd.prog 116 = 0 := by kernel_rfl
theorem tex117 : extN Tryd.prog 117 = 0 := by kernel_rfl
theorem tex118 : extN Tryd.prog 118 = 0 := by kernel_rfl
theorem tex119 : extN Tryd.prog 119 = 0 := by kernel_rfl
theorem tex120 : extN Tryd.prog 120 = 0 := by kernel_rfl
theorem tex121 : extN Tryd.prog 121 = 0 := by kernel_rfl
theorem tex122 : extN Tryd.prog 122 = 0 := by kernel_rfl
theorem tex123 : extN Tryd.prog 123 = 0 := by kernel_rfl
theorem tex124 : extN Tryd.prog 124 = 0 := by kernel_rfl
theorem tex125 : extN Tryd.prog 125 = 0 := by kernel_rfl
theorem tex126 : extN Tryd.prog 126 = 0 := by kernel_rfl
theorem tex127 : extN Tryd.prog 127 = 0 := by kernel_rfl
theorem tex128 : extN Tryd.prog 128 = 0 := by kernel_rfl
theorem tex129 : extN Tryd.prog 129 = 0 := by kernel_rfl
theorem tex130 : extN Tryd.prog 130 = 0 := by kernel_rfl
theorem tex131 : extN Tryd.prog 131 = 0 := by kernel_rfl
theorem tex132 : extN Tryd.prog 132 = 0 := by kernel_rfl
theorem tex133 : extN Tryd.prog 133 = 0 := by kernel_rfl
theorem tex134 : extN Tryd.prog 134 = 0 := by kernel_rfl
theorem tex135 : extN Tryd.prog 135 = 0 := by kernel_rfl
theorem tex136 : extN Tryd.prog 136 = 0 := by kernel_rfl
theorem tex137 : extN Tryd.prog 137 = 0 := by kernel_rfl
theorem tex138 : extN Tryd.prog 138 = 0 := by kernel_rfl
theorem tex139 : extN Tryd.prog 139 = 0 := by kernel_rfl
theorem tex140 : extN Tryd.prog 140 = 0 := by kernel_rfl
theorem tex141 : extN Tryd.prog 141 = 0 := by kernel_rfl
theorem tex142 : extN Tryd.prog 142 = 0 := by kernel_rfl
theorem tex143 : extN Tryd.prog 143 = 0 := by kernel_rfl
theorem tex144 : extN Tryd.prog 144 = 0 := by kernel_rfl
theorem tex145 : extN Tryd.prog 145 = 0 := by kernel_rfl
theorem tex146 : extN Tryd.prog 146 = 0 := by kernel_rfl
theorem tex147 : extN Tryd.prog 147 = 0 := by kernel_rfl
theorem tex148 : extN Tryd.prog 148 = 0 := by kernel_rfl
theorem tex149 : extN Tryd.prog 149 = 0 := by kernel_rfl
theorem tex150 : extN Tryd.prog 150 = 0 := by kernel_rfl
theorem tex151 : extN Tryd.prog 151 = 0 := by kernel_rfl
theorem tex152 : extN Tryd.prog 152 = 0 := by kernel_rfl
theorem tex153 : extN Tryd.prog 153 = 0 := by kernel_rfl
theorem tex154 : extN Tryd.prog 154 = 0 := by kernel_rfl
theorem tex155 : extN Tryd.prog 155 = 0 := by kernel_rfl
theorem tex156 : extN Tryd.prog 156 = 0 := by kernel_rfl
theorem tex157 : extN Tryd.prog 157 = 0 := by kernel_rfl
theorem tex158 : extN Tryd.prog 158 = 0 := by kernel_rfl
theorem tex159 : extN Tryd.prog 159 = 0 := by kernel_rfl
theorem tex160 : extN Tryd.prog 160 = 0 := by kernel_rfl
theorem tex161 : extN Tryd.prog 161 = 0 := by kernel_rfl
theorem tex162 : extN Tryd.prog 162 = 0 := by kernel_rfl
theorem tex163 : extN Tryd.prog 163 = 0 := by kernel_rfl
theorem tex164 : extN Tryd.prog 164 = 0 := by kernel_rfl
theorem tex165 : extN Tryd.prog 165 = 0 := by kernel_rfl
theorem tex166 : extN Tryd.prog 166 = 0 := by kernel_rfl
theorem tex167 : extN Tryd.prog 167 = 0 := by kernel_rfl
theorem tex168 : extN Tryd.prog 168 = 0 := by kernel_rfl
theorem tex169 : extN Tryd.prog 169 = 0 := by kernel_rfl
theorem tex170 : extN Tryd.prog 170 = 0 := by kernel_rfl
theorem tex171 : extN Tryd.prog 171 = 0 := by kernel_rfl
theorem tex172 : extN Tryd.prog 172 = 0 := by kernel_rfl
theorem tex173 : extN Tryd.prog 173 = 0 := by kernel_rfl
theorem tex174 : extN Tryd.prog 174 = 0 := by kernel_rfl
theorem tex175 : extN Tryd.prog 175 = 0 := by kernel_rfl
theorem tex176 : extN Tryd.prog 176 = 0 := by kernel_rfl
theorem tex177 : extN Tryd.prog 177 = 0 := by kernel_rfl
theorem tex178 : extN Tryd.prog 178 = 0 := by kernel_rfl
theorem tex179 : extN Tryd.prog 179 = 0 := by kernel_rfl
theorem tex180 : extN Tryd.prog 180 = 0 := by kernel_rfl
theorem tex181 : extN Tryd.prog 181 = 0 := by kernel_rfl
attribute [push_cast] tz1 tzero1 tcn2 tz2 tzero2 tzv2 tby2 tint2 tstr2 tlf2 tcn3 tz3 tzero3 tzv3 tby3 tint3 tstr3 tlf3 tcn4 tz4 tzero4 tzv4 tby4 tlf4 tcn5 tz5 tzero5 tzv5 tby5 tint5 tstr5 tlf5 tcn6 tz6 tzero6 tzv6 tby6 tint6 tstr6 tlf6 tcn7 tz7 tzero7 tzv7 tby7 tpls7 tf7_0 tpl7_0 tf7_1 tpl7_1 tf7_2 tpl7_2 tf7_3 tpl7_3 tcn8 tz8 tzero8 tzv8 tby8 tpls8 tf8_0 tpl8_0 tf8_1 tpl8_1 tf8_2 tpl8_2 tf8_3 tpl8_3 tcn9 tz9 tzero9 tzv9 tby9 tstr9 tsl9 tseq9 tlf9 tcn22 tz22 tzero22 tzv22 tby22 tel22 tsl22 tstr22 tseq22 tcn23 tz23 tzero23 tzv23 tby23 tel23 tsl23 tstr23 tseq23 tcn28 tz28 tzero28 tzv28 tby28 tint28 tstr28 tlf28 tcn35 tz35 tzero35 tzv35 tby35 tel35 tsl35 tstr35 tseq35 tcn43 tz43 tzero43 tzv43 tby43 tpls43 tf43_0 tpl43_0 tf43_1 tpl43_1 tf43_2 tpl43_2 tf43_3 tpl43_3 tf43_4 tpl43_4 tf43_5 tpl43_5 tcn44 tz44 tzero44 tzv44 tby44 tst44 tpls44 tf44_0 tpl44_0 tf44_1 tpl44_1 tf44_2 tpl44_2 tf44_3 tpl44_3 tf44_4 tpl44_4 tf44_5 tpl44_5 tcn46 tz46 tzero46 tzv46 tby46 tel46 tsl46 tstr46 tseq46 tcn47 tz47 tzero47 tzv47 tby47 tel47 tsl47 tstr47 tseq47 tcn49 tz49 tzero49 tzv49 tby49 tel49 tsl49 tstr49 tseq49 tcn50 tz50 tzero50 tzv50 tby50 tel50 tsl50 tstr50 tseq50 tcn55 tz55 tzero55 tzv55 tby55 tpls55 tf55_0 tpl55_0 tf55_1 tpl55_1 tf55_2 tpl55_2 tf55_3 tpl55_3 tf55_4 tpl55_4 tcn56 tz56 tzero56 tzv56 tby56 tst56 tpls56 tf56_0 tpl56_0 tf56_1 tpl56_1 tf56_2 tpl56_2 tf56_3 tpl56_3 tf56_4 tpl56_4 tcn64 tz64 tzero64 tzv64 tby64 tpls64 tf64_0 tpl64_0 tf64_1 tpl64_1 tf64_2 tpl64_2 tf64_3 tpl64_3 tf64_4 tpl64_4 tcn65 tz65 tzero65 tzv65 tby65 tst65 tpls65 tf65_0 tpl65_0 tf65_1 tpl65_1 tf65_2 tpl65_2 tf65_3 tpl65_3 tf65_4 tpl65_4 tcn68 tz68 tzero68 tzv68 tby68 tel68 tsl68 tstr68 tseq68 tcn71 tz71 tzero71 tzv71 tby71 tpls71 tf71_0 tpl71_0 tf71_1 tpl71_1 tcn72 tz72 tzero72 tzv72 tby72 tst72 tpls72 tf72_0 tpl72_0 tf72_1 tpl72_1 tcn73 tz73 tzero73 tzv73 tby73 tel73 tpls73 tpl73_0 tpl73_1 tpl73_2 tcn74 tz74 tzero74 tzv74 tby74 tel74 tpls74 tpl74_0 tpl74_1 tpl74_2 tcn75 tz75 tzero75 tzv75 tby75 tel75 tsl75 tstr75 tseq75 tcn76 tz76 tzero76 tzv76 tby76 tel76 tsl76 tstr76 tseq76 tcn77 tz77 tzero77 tzv77 tby77 tpls77 tf77_0 tpl77_0 tf77_1 tpl77_1 tcn78 tz78 tzero78 tzv78 tby78 tst78 tpls78 tf78_0 tpl78_0 tf78_1 tpl78_1 tcn79 tz79 tzero79 tzv79 tby79 tel79 tpls79 tpl79_0 tpl79_1 tpl79_2 tcn86 tz86 tzero86 tzv86 tby86 tel86 tsl86 tstr86 tseq86 tcn87 tz87 tzero87 tzv87 tby87 tpls87 tf87_0 tpl87_0 tf87_1 tpl87_1 tf87_2 tpl87_2 tcn88 tz88 tzero88 tzv88 tby88 tst88 tpls88 tf88_0 tpl88_0 tf88_1 tpl88_1 tf88_2 tpl88_2 tcn93 tz93 tzero93 tzv93 tmap93 tby93 tcn94 tz94 tzero94 tzv94 tby94 tpls94 tf94_0 tpl94_0 tf94_1 tpl94_1 tf94_2 tpl94_2 tcn95 tz95 tzero95 tzv95 tby95 tst95 tpls95 tf95_0 tpl95_0 tf95_1 tpl95_1 tf95_2 tpl95_2 tz97 tzero97 tcn99 tz99 tzero99 tzv99 tby99 tcn100 tz100 tzero100 tzv100 tby100 tpls100 tf100_0 tpl100_0 tf100_1 tpl100_1 tcn101 tz101 tzero101 tzv101 tby101 tst101 tpls101 tf101_0 tpl101_0 tf101_1 tpl101_1 tz104 tzero104 tcn107 tz107 tzero107 tzv107 tby107 tel107 tsl107 tstr107 tseq107 tcn108 tz108 tzero108 tzv108 tby108 tel108 tpls108 tpl108_0 tpl108_1 tpl108_2 tpl108_3 tpl108_4 tpl108_5 tpl108_6 tpl108_7 tcn116 tz116 tzero116 tzv116 tby116 tel116 tpls116 tpl116_0 tpl116_1 tpl116_2 tcn122 tz122 tzero122 tzv122 tby122 tel122 tpls122 tpl122_0 tpl122_1 tpl122_2 tpl122_3 tpl122_4 tpl122_5 tpl122_6 tpl122_7 tcn131 tz131 tzero131 tzv131 tby131 tel131 tsl131 tstr131 tseq131 tcn132 tz132 tzero132 tzv132 tby132 tel132 tsl132 tstr132 tseq132 tz134 tzero134 tcn141 tz141 tzero141 tzv141 tif141 tby141 tcn142 tz142 tzero142 tzv142 tif142 tby142 tcn152 tz152 tzero152 tzv152 tby152 tel152 tpls152 tpl152_0 tpl152_1 tex0 tex1 tex2 tex3 tex4 tex5 tex6 tex7 tex8 tex9 tex10 tex11 tex12 tex13 tex14 tex15 tex16 tex17 tex18 tex19 tex20 tex21 tex22 tex23 tex24 tex25 tex26 tex27 tex28 tex29 tex30 tex31 tex32 tex33 tex34 tex35 tex36 tex37 tex38 tex39 tex40 tex41 tex42 tex43 tex44 tex45 tex46 tex47 tex48 tex49 tex50 tex51 tex52 tex53 tex54 tex55 tex56 tex57 tex58 tex59 tex60 tex61 tex62 tex63 tex64 tex65 tex66 tex67 tex68 tex69 tex70 tex71 tex72 tex73 tex74 tex75 tex76 tex77 tex78 tex79 tex80 tex81 tex82 tex83 tex84 tex85 tex86 tex87 tex88 tex89 tex90 tex91 tex92 tex93 tex94 tex95 tex96 tex97 tex98 tex99 tex100 tex101 tex102 tex103 tex104 tex105 tex106 tex107 tex108 tex109 tex110 tex111 tex112 tex113 tex114 tex115 tex116 tex117 tex118 tex119 tex120 tex121 tex122 tex123 tex124 tex125 tex126 tex127 tex128 tex129 tex130 tex131 tex132 tex133 tex134 tex135 tex136 tex137 tex138 tex139 tex140 tex141 tex142 tex143 tex144 tex145 tex146 tex147 tex148 tex149 tex150 tex151 tex152 tex153 tex154 tex155 tex156 tex157 tex158 tex159 tex160 tex161 tex162 tex163 tex164 tex165 tex166 tex167 tex168 tex169 tex170 tex171 tex172 tex173 tex174 tex175 tex176 tex177 tex178 tex179 tex180 tex181

end Go.Aw

namespace Go.Aw
set_option linter.unusedSimpArgs false
set_option linter.unusedVariables false
open Go.RowKit

theorem fz_bel (s : St) : ∀ (k : Nat) (x : V), V.bel 0 x = true → St.fz k s x = s
  | 0, _, _ => rfl
  | k + 1, x, h => by
    have hl : ∀ xs : List V, V.belL 0 xs = true → xs.foldl (St.fz k) s = s := fun xs => by
      induction xs with
      | nil => intro _; rfl
      | cons y r ih =>
        intro h
        simp only [V.belL, Bool.and_eq_true] at h
        rw [List.foldl_cons, fz_bel s k y h.1]
        exact ih h.2
    cases x with
    | ref id off len => simp [V.bel] at h
    | ptr id row off => simp [V.bel] at h
    | fn f xs => exact hl xs (by simpa [V.bel] using h)
    | agg xs => exact hl xs (by simpa [V.bel] using h)
    | iface t y => exact fz_bel s k y (by simpa [V.bel] using h)
    | opt g y => exact fz_bel s k y (by simpa [V.bel] using h)
    | _ => rfl
theorem settle_bel (s : St) : ∀ l : List Operand, (∀ y, y ∈ l → V.bel 0 (s.ev y) = true) → s.settle l = s
  | [], _ => rfl
  | x :: r, h => by
    rw [St.settle, fz_bel s 3 _ (h x (by simp))]
    exact settle_bel s r fun y hy => h y (by simp [hy])
theorem sh_bel (n : Nat) : ∀ x : V, V.bel 0 x = true → V.sh n x = x := by
  intro x
  apply V.rec (motive_1 := fun x => V.bel 0 x = true → V.sh n x = x) (motive_2 := fun xs => V.belL 0 xs = true → V.shL n xs = xs)
  · intro x _; rfl
  · intro xs ih h; simp only [V.sh]; rw [ih (by simpa [V.bel] using h)]
  · intro xs ih h; simp only [V.sh]; rw [ih (by simpa [V.bel] using h)]
  · intro id row off h; simp [V.bel] at h
  · intro id off len h; simp [V.bel] at h
  · intro _; rfl
  · intro f xs ih h; simp only [V.sh]; rw [ih (by simpa [V.bel] using h)]
  · intro id h; simp [V.bel] at h
  · intro t x ih h; simp only [V.sh]; rw [ih (by simpa [V.bel] using h)]
  · intro g x ih h; simp only [V.sh]; rw [ih (by simpa [V.bel] using h)]
  · intro _; rfl
  · intro _; rfl
  · intro x r ih1 ih2 h
    simp only [V.belL, Bool.and_eq_true] at h
    simp only [V.shL]
    rw [ih1 h.1, ih2 h.2]
theorem ren_fix {r : List Nat} {n : Nat} (hr : ∀ i, i < n → r.getD i 0 = i) : ∀ x : V, V.bel n x = true → V.ren r x = x := by
  intro x
  apply V.rec (motive_1 := fun x => V.bel n x = true → V.ren r x = x) (motive_2 := fun xs => V.belL n xs = true → V.renL r xs = xs)
  · intro x _; rfl
  · intro xs ih h; simp only [V.ren]; rw [ih (by simpa [V.bel] using h)]
  · intro xs ih h; simp only [V.ren]; rw [ih (by simpa [V.bel] using h)]
  · intro id row off h; simp only [V.ren]; rw [hr id (by simpa [V.bel] using h)]
  · intro id off len h; simp only [V.ren]; rw [hr id (by simpa [V.bel] using h)]
  · intro _; rfl
  · intro f xs ih h; simp only [V.ren]; rw [ih (by simpa [V.bel] using h)]
  · intro id h; simp only [V.ren]; rw [hr id (by simpa [V.bel] using h)]
  · intro t x ih h; simp only [V.ren]; rw [ih (by simpa [V.bel] using h)]
  · intro g x ih h; simp only [V.ren]; rw [ih (by simpa [V.bel] using h)]
  · intro _; rfl
  · intro _; rfl
  · intro x r ih1 ih2 h
    simp only [V.belL, Bool.and_eq_true] at h
    simp only [V.renL]
    rw [ih1 h.1, ih2 h.2]
theorem bel_up {n m : Nat} (hnm : n ≤ m) : ∀ x : V, V.bel n x = true → V.bel m x = true := by
  intro x
  apply V.rec (motive_1 := fun x => V.bel n x = true → V.bel m x = true) (motive_2 := fun xs => V.belL n xs = true → V.belL m xs = true)
  · intro x _; rfl
  · intro xs ih h; simpa [V.bel] using ih (by simpa [V.bel] using h)
  · intro xs ih h; simpa [V.bel] using ih (by simpa [V.bel] using h)
  · intro id row off h; simp [V.bel] at h ⊢; omega
  · intro id off len h; simp [V.bel] at h ⊢; omega
  · intro _; rfl
  · intro f xs ih h; simpa [V.bel] using ih (by simpa [V.bel] using h)
  · intro id h; simp [V.bel] at h ⊢; omega
  · intro t x ih h; simpa [V.bel] using ih (by simpa [V.bel] using h)
  · intro g x ih h; simpa [V.bel] using ih (by simpa [V.bel] using h)
  · intro _; rfl
  · intro _; rfl
  · intro x r ih1 ih2 h
    simp only [V.belL, Bool.and_eq_true] at h ⊢
    exact ⟨ih1 h.1, ih2 h.2⟩
theorem belL_up {n m : Nat} (hnm : n ≤ m) : ∀ xs : List V, V.belL n xs = true → V.belL m xs = true
  | [], _ => rfl
  | x :: r, h => by
    simp only [V.belL, Bool.and_eq_true] at h ⊢
    exact ⟨bel_up hnm x h.1, belL_up hnm r h.2⟩
theorem Blk.bel_up {n m : Nat} (hnm : n ≤ m) (b : Blk) (h : b.bel n = true) : b.bel m = true := by
  cases b with
  | cells xs => exact belL_up hnm xs h
  | vrs k rs =>
    simp only [Blk.bel, List.all_eq_true] at h ⊢
    exact fun r hr => belL_up hnm r (h r hr)
  | mp es =>
    simp only [Blk.bel, List.all_eq_true, Bool.and_eq_true] at h ⊢
    exact fun p hp => ⟨Aw.bel_up hnm _ (h p hp).1, Aw.bel_up hnm _ (h p hp).2⟩
  | it x seen k => exact Aw.bel_up hnm x h
  | _ => rfl
theorem renL_fix {r : List Nat} {n : Nat} (hr : ∀ i, i < n → r.getD i 0 = i) (xs : List V) (h : V.belL n xs = true) : V.renL r xs = xs := by
  rw [renL_eq]
  conv => rhs; rw [← List.map_id xs]
  exact List.map_congr_left fun x hx => ren_fix hr x (belL_mem h hx)
theorem Blk.ren_fix {r : List Nat} {n : Nat} (hr : ∀ i, i < n → r.getD i 0 = i) (b : Blk) (h : b.bel n = true) : b.ren r = b := by
  cases b with
  | cells xs => simp only [Blk.ren]; rw [renL_fix hr xs h]
  | vrs k rs =>
    simp only [Blk.bel, List.all_eq_true] at h
    simp only [Blk.ren]
    congr 1
    conv => rhs; rw [← List.map_id rs]
    exact List.map_congr_left fun q hq => renL_fix hr q (h q hq)
  | mp es =>
    simp only [Blk.bel, List.all_eq_true, Bool.and_eq_true] at h
    simp only [Blk.ren]
    congr 1
    conv => rhs; rw [← List.map_id es]
    exact List.map_congr_left fun p hp => by rw [Aw.ren_fix hr _ (h p hp).1, Aw.ren_fix hr _ (h p hp).2]; rfl
  | it x seen k => simp only [Blk.ren]; rw [Aw.ren_fix hr x h]
  | _ => rfl
theorem leafConst_bel (v : Value) : V.bel 0 (leafConst v) = true := by
  unfold leafConst
  split <;> rfl
theorem kzero_bel {P : Program} {t : TypeId} {zs : List V} (h : kzero P t = some zs) : V.belL 0 zs = true := by
  obtain ⟨i, z, _, _, rfl⟩ := kzero_spec h
  generalize z.cells.toList = l
  induction l with
  | nil => rfl
  | cons x r ih => simp only [List.map_cons, V.belL, leafConst_bel, ih, Bool.and_self]
theorem dOf_bel {x : V} {d : D} (h : dOf x = some d) : V.bel 0 x = true := by
  cases x <;> simp [dOf] at h <;> rfl
theorem dOfs_bel : ∀ {xs : List V} {ds : List D}, dOfs xs = some ds → V.belL 0 xs = true
  | [], _, _ => rfl
  | x :: r, ds, h => by
    simp only [dOfs] at h
    split at h
    · rename_i h1 h2
      simp only [V.belL, dOf_bel h1, dOfs_bel h2, Bool.and_self]
    · cases h
theorem dV_bel {x : V} {d : D} (h : dV x = some d) : V.bel 0 x = true := by
  unfold dV at h
  split at h
  · rfl
  · rfl
  · simp only [Option.map_eq_some_iff] at h
    obtain ⟨ds, h, _⟩ := h
    simpa [V.bel] using dOfs_bel h
  · simp only [Option.map_eq_some_iff] at h
    obtain ⟨ds, h, _⟩ := h
    simpa [V.bel] using dOfs_bel h
  · rfl
  · simp only [Option.map_eq_some_iff] at h
    obtain ⟨ds, h, _⟩ := h
    simpa [V.bel] using dOfs_bel h
  · cases h
theorem dVs_bel : ∀ {xs : List V} {ds : List D}, dVs xs = some ds → ∀ x, x ∈ xs → V.bel 0 x = true
  | [], _, _, x, hx => by cases hx
  | y :: r, ds, h, x, hx => by
    simp only [dVs] at h
    split at h
    · rename_i h1 h2
      rcases List.mem_cons.1 hx with rfl | hx
      · exact dV_bel h1
      · exact dVs_bel h2 x hx
    · cases h
theorem strip_bel {n : Nat} {x : V} (h : V.bel n x.strip.2 = true) : V.bel n x = true := by
  cases x <;> first | exact h | (simpa [V.strip, V.bel] using h)
theorem stripAll_mem {s : St} : ∀ {l : List Operand} {y : Operand}, y ∈ l → (s.ev y).strip.2 ∈ (stripAll s l).2
  | x :: r, y, h => by
    rcases List.mem_cons.1 h with rfl | h
    · simp [stripAll]
    · simp only [stripAll]; exact List.mem_cons_of_mem _ (stripAll_mem h)
theorem callOps_bel {s : St} {c : Call} {p : Prop} {f : FuncId} {args : List V} {ds : List D} (hT : callT s c = some (p, f, args)) (hd : dVs args = some ds) : ∀ y, y ∈ callOps c → V.bel 0 (s.ev y) = true := by
  intro y hy
  unfold callT at hT
  split at hT
  · rename_i fo hc
    simp only [callOps, hc, List.mem_append, List.mem_singleton] at hy
    split at hT
    · rename_i g caps he
      simp only [Option.some.injEq, Prod.mk.injEq] at hT
      obtain ⟨_, _, rfl⟩ := hT
      rcases hy with hy | rfl
      · exact strip_bel (dVs_bel hd _ (List.mem_append_left _ (stripAll_mem hy)))
      · exact strip_bel (by rw [he]; rfl)
    · rename_i g caps he
      simp only [Option.some.injEq, Prod.mk.injEq] at hT
      obtain ⟨_, _, rfl⟩ := hT
      rcases hy with hy | rfl
      · exact strip_bel (dVs_bel hd _ (List.mem_append_left _ (stripAll_mem hy)))
      · refine strip_bel ?_
        rw [he]
        have : ∀ l : List V, (∀ x, x ∈ l → V.bel 0 x = true) → V.belL 0 l = true := fun l => by
          induction l with
          | nil => intro _; rfl
          | cons x r ih => intro h; simp only [V.belL, h x (by simp), ih fun z hz => h z (by simp [hz]), Bool.and_self]
        simpa [V.bel] using this caps fun x hx => dVs_bel hd x (List.mem_append_right _ hx)
    · cases hT
  · cases hT

theorem stripAll_congrP {s s' : St} : ∀ {l : List Operand}, (∀ y, y ∈ l → s'.ev y = s.ev y) → stripAll s' l = stripAll s l
  | [], _ => rfl
  | x :: r, h => by simp only [stripAll]; rw [h x (by simp), stripAll_congrP fun y hy => h y (by simp [hy])]

def valCall (c : Call) : Bool := match c.callee with | .value _ => true | _ => false

theorem callT_congrP {s s' : St} {c : Call} (h : ∀ y, y ∈ callOps c → s'.ev y = s.ev y) : callT s' c = callT s c := by
  unfold callT
  split
  · rename_i fo hc
    simp only [callOps, hc, List.mem_append, List.mem_singleton] at h
    rw [h fo (.inr rfl), stripAll_congrP fun y hy => h y (.inl hy)]
  · rfl
theorem opR_congrP {P : Program} {s s' : St} {c : Call} (hv : valCall c = true) (h : ∀ y, y ∈ callOps c → s'.ev y = s.ev y) (h0 : opR P s (.call c) = none) : opR P s' (.call c) = none := by
  unfold valCall at hv
  split at hv
  · rename_i fo hc
    simp only [callOps, hc, List.mem_append, List.mem_singleton] at h
    simp only [opR, hc] at h0 ⊢
    cases fo with
    | func g =>
      simp only at h0 ⊢
      rw [stripAll_congrP fun y hy => h y (.inl hy)]
      exact h0
    | _ => simp only [opQ, hc] at h0 ⊢
  · cases hv

theorem call_vc {P : Program} {kp : List Nat} {ops : Array Oper} {o : Oper} {c : Call} {s : St} {p : Prop} {f : FuncId} {args : List V} {ds : List D} {x0 : V} {K : St → Prop} (hg : o.guard = none) (hc : o.op = .call c) (hv : valCall c = true)
    (hR : opR P s (.call c) = none) (hT : callT s c = some (p, f, args)) (hd : dVs args = some ds) (hp : p) (hb : V.bel 0 x0 = true) (h : PC P f ds fun x H => x = x0 ∧ H = []) (hK : K (s.put o.dst x0)) : OpVC P kp ops o s K := by
  have hE : opE P kp s (.call c) = none := by
    unfold valCall at hv
    split at hv
    · rename_i fo hcc; simp only [opE, hcc]
    · cases hv
  have hs : s.settle (callOps c) = s := settle_bel s _ (callOps_bel hT hd)
  unfold OpVC St.guardOf
  simp only [hg, hc, hR, hE, hs, hT, hd]
  refine ⟨fun _ => hp, CallD.det h ?_⟩
  rw [sh_bel _ _ hb, show heapSh s.heap.length [] = [] from rfl, List.append_nil]
  exact hK
theorem alloc_vc {P : Program} {kp : List Nat} {ops : Array Oper} {o : Oper} {t : TypeId} {s : St} {zs : List V} {K : St → Prop} (hg : o.guard = none) (hc : o.op = .alloc t) (hz : kzero P t = some zs)
    (hK : K ({ s with heap := s.heap ++ [Blk.cells zs] }.put o.dst (.ptr s.heap.length 0 0))) : OpVC P kp ops o s K := by
  unfold OpVC St.guardOf
  simp only [hg, hc, opR, opQ, opE, hz, Option.map_some]
  exact ⟨trivial, hK⟩

structure It where
  i : Nat
  d : Nat
  v : V
  b : Option Blk

def ItOk (P : Program) (ops : Array Oper) (s0 : St) (it : It) : Prop := ∃ o, ops[it.i]? = some o ∧ o.guard = none ∧ o.dst = some it.d ∧
  match it.b with
  | none => V.bel 0 it.v = true ∧ ∃ c p f args ds, o.op = .call c ∧ valCall c = true ∧ opR P s0 (.call c) = none ∧ callT s0 c = some (p, f, args) ∧ p ∧ dVs args = some ds ∧ PC P f ds fun x H => x = it.v ∧ H = []
  | some b => ∃ t zs, o.op = .alloc t ∧ kzero P t = some zs ∧ b = .cells zs
def applyI (s : St) : List It → St
  | [] => s
  | it :: r => applyI ⟨tput s.tm it.d it.v, s.heap ++ it.b.toList⟩ r
def SlotsI : Nat → List It → Prop
  | _, [] => True
  | n, it :: r => (it.b.isSome = true → it.v = .ptr n 0 0) ∧ SlotsI (n + it.b.toList.length) r
def hpI (pd : Nat → Bool) : List It → List Blk
  | [] => []
  | it :: r => (it.b.toList.map fun b => if pd it.i then .gone else b) ++ hpI pd r

theorem applyI_heap : ∀ (its : List It) (s : St), (applyI s its).heap = s.heap ++ hpI (fun _ => false) its
  | [], s => by simp [applyI, hpI]
  | it :: r, s => by rw [applyI, applyI_heap r]; simp [hpI]
theorem applyI_other : ∀ (its : List It) (s : St) (j : Nat), (∀ it, it ∈ its → it.d ≠ j) → tget (applyI s its).tm j = tget s.tm j
  | [], s, j, _ => rfl
  | it :: r, s, j, h => by
    rw [applyI, applyI_other r _ j fun x hx => h x (by simp [hx])]
    simp only [tget_tput]
    rw [if_neg fun e => h it (by simp) e.symm]
theorem applyI_get : ∀ (its : List It) (s : St), (its.map It.d).Nodup → ∀ it, it ∈ its → tget (applyI s its).tm it.d = some it.v
  | x :: r, s, hn, it, h => by
    simp only [List.map_cons, List.nodup_cons] at hn
    rw [applyI]
    rcases List.mem_cons.1 h with rfl | h
    · rw [applyI_other r _ _ fun y hy e => hn.1 (by rw [← e]; exact List.mem_map_of_mem hy)]
      simp [tget_tput]
    · exact applyI_get r _ hn.2 it h
theorem slot_at (pd : Nat → Bool) : ∀ (its : List It) (H : List Blk), SlotsI H.length its → ∀ it b, it ∈ its → it.b = some b → ∃ g, it.v = .ptr g 0 0 ∧ H.length ≤ g ∧ g < H.length + (hpI pd its).length
  | x :: r, H, hs, it, b, h, hb => by
    simp only [SlotsI] at hs
    rcases List.mem_cons.1 h with rfl | h
    · exact ⟨H.length, hs.1 (by simp [hb]), Nat.le_refl _, by simp [hpI, hb]⟩
    · obtain ⟨g, h1, h2, h3⟩ := slot_at pd r (H ++ x.b.toList) (by simpa using hs.2) it b h hb
      refine ⟨g, h1, by simp at h2; omega, ?_⟩
      simp [hpI] at h3 ⊢; omega
theorem slot_set (i : Nat) (pd : Nat → Bool) : ∀ (its : List It) (H : List Blk), (its.map It.i).Nodup → SlotsI H.length its → ∀ it b g, it ∈ its → it.b = some b → it.i = i → it.v = .ptr g 0 0 →
    H ++ hpI (fun k => pd k && !(k == i)) its = (H ++ hpI pd its).set g b
  | x :: r, H, hn, hs, it, b, g, h, hb, hi, hv => by
    simp only [List.map_cons, List.nodup_cons] at hn
    simp only [SlotsI] at hs
    have rest : (∀ y, y ∈ r → y.i ≠ i) → hpI (fun k => pd k && !(k == i)) r = hpI pd r := by
      intro hr
      clear hn hs h
      induction r with
      | nil => rfl
      | cons y q ih =>
        have h1 := hr y (by simp)
        simp only [hpI]
        rw [ih fun z hz => hr z (by simp [hz])]
        simp [h1]
    rcases List.mem_cons.1 h with rfl | h
    · have hg := hs.1 (by simp [hb])
      rw [hv] at hg
      simp only [V.ptr.injEq, and_true] at hg
      subst hg
      simp only [hpI]
      rw [rest fun y hy e => hn.1 (by rw [hi, ← e]; exact List.mem_map_of_mem hy)]
      simp [hb, hi]
    · have hx : x.i ≠ i := fun e => hn.1 (by rw [e, ← hi]; exact List.mem_map_of_mem h)
      have := slot_set i pd r (H ++ (x.b.toList.map fun b => if pd x.i then .gone else b)) hn.2 (by simpa using hs.2) it b g h hb hi hv
      simp only [List.append_assoc] at this
      simp only [hpI]
      rw [← this]
      simp [hx]
theorem slot_inj : ∀ (its : List It) (n : Nat), SlotsI n its → (its.map It.i).Nodup → ∀ it it' g, it ∈ its → it' ∈ its → it.b.isSome = true → it'.b.isSome = true → it.v = .ptr g 0 0 → it'.v = .ptr g 0 0 → it = it' := by
  have low : ∀ (its : List It) (n : Nat), SlotsI n its → ∀ it g, it ∈ its → it.b.isSome = true → it.v = .ptr g 0 0 → n ≤ g := by
    intro its
    induction its with
    | nil => intro n _ it g h; cases h
    | cons x r ih =>
      intro n hs it g h hb hv
      simp only [SlotsI] at hs
      rcases List.mem_cons.1 h with rfl | h
      · have := hs.1 hb
        rw [hv] at this
        simp only [V.ptr.injEq, and_true] at this
        omega
      · have := ih _ hs.2 it g h hb hv
        omega
  intro its
  induction its with
  | nil => intro n _ _ it it' g h; cases h
  | cons x r ih =>
    intro n hs hn it it' g h h' hb hb' hv hv'
    simp only [SlotsI] at hs
    simp only [List.map_cons, List.nodup_cons] at hn
    rcases List.mem_cons.1 h with h0 | h1 <;> rcases List.mem_cons.1 h' with h0' | h1'
    · exact h0.trans h0'.symm
    · exfalso
      subst h0
      have e1 := hs.1 hb
      rw [hv] at e1
      simp only [V.ptr.injEq, and_true] at e1
      have := low r _ hs.2 it' g h1' hb' hv'
      cases hbb : it.b with
      | none => rw [hbb] at hb; cases hb
      | some b => rw [hbb] at this; simp at this; omega
    · exfalso
      subst h0'
      have e1 := hs.1 hb'
      rw [hv'] at e1
      simp only [V.ptr.injEq, and_true] at e1
      have := low r _ hs.2 it g h1 hb hv
      cases hbb : it'.b with
      | none => rw [hbb] at hb'; cases hb'
      | some b => rw [hbb] at this; simp at this; omega
    · exact ih _ hs.2 hn.2 it it' g h1 h1' hb hb' hv hv'

theorem tget_filter (q : Nat → Bool) : ∀ (l : List (Nat × V)) (j : Nat), tget (l.filter fun p => q p.1) j = if q j then tget l j else none
  | [], j => by simp [tget]
  | (k, x) :: r, j => by
    have ih := tget_filter q r j
    by_cases hk : q k = true
    · rw [List.filter_cons_of_pos (by simpa using hk)]
      simp only [tget]
      by_cases hj : j = k
      · subst hj; simp [hk]
      · simp only [hj, if_false]; exact ih
    · rw [List.filter_cons_of_neg (by simpa using hk), ih]
      by_cases hj : j = k
      · subst hj; simp [hk]
      · simp only [tget, hj, if_false]

def stgI (pd : Nat → Bool) (its : List It) (s0 : St) : St := ⟨(applyI s0 its).tm.filter fun p => !(its.any fun it => pd it.i && it.d == p.1), s0.heap ++ hpI pd its⟩
theorem stgI_get (pd : Nat → Bool) (its : List It) (s0 : St) (j : Nat) : tget (stgI pd its s0).tm j = if (its.any fun it => pd it.i && it.d == j) then none else tget (applyI s0 its).tm j := by
  unfold stgI
  have := tget_filter (fun j => !(its.any fun it => pd it.i && it.d == j)) (applyI s0 its).tm j
  rw [this]
  cases its.any fun it => pd it.i && it.d == j <;> rfl

end Go.Aw

namespace Go.Aw
set_option linter.unusedSimpArgs false
set_option linter.unusedVariables false
open Go.RowKit

theorem hpI_congr {pd pd' : Nat → Bool} : ∀ {its : List It}, (∀ x, x ∈ its → x.b.isSome = true → pd x.i = pd' x.i) → hpI pd its = hpI pd' its
  | [], _ => rfl
  | x :: r, h => by
    simp only [hpI]
    rw [hpI_congr fun y hy => h y (by simp [hy])]
    cases hb : x.b with
    | none => rfl
    | some b => simp [h x (by simp) (by simp [hb])]
theorem hpI_gone : ∀ (its : List It) (b : Blk), b ∈ hpI (fun _ => true) its → b = .gone
  | [], b, h => by cases h
  | x :: r, b, h => by
    simp only [hpI, List.mem_append] at h
    rcases h with h | h
    · cases hb : x.b with
      | none => simp [hb] at h
      | some c => simpa [hb] using h
    · exact hpI_gone r b h
theorem hpI_bel {P : Program} {ops : Array Oper} {s0 : St} {pd : Nat → Bool} : ∀ {its : List It}, (∀ it, it ∈ its → ItOk P ops s0 it) → ∀ b, b ∈ hpI pd its → b.bel 0 = true
  | [], _, b, h => by cases h
  | x :: r, hok, b, h => by
    simp only [hpI, List.mem_append] at h
    rcases h with h | h
    · obtain ⟨o, _, _, _, hm⟩ := hok x (by simp)
      cases hb : x.b with
      | none => simp [hb] at h
      | some c =>
        rw [hb] at hm
        obtain ⟨t, zs, _, hz, rfl⟩ := hm
        simp only [hb, Option.toList_some, List.map_cons, List.map_nil, List.mem_singleton] at h
        subst h
        split
        · rfl
        · exact kzero_bel hz
    · exact hpI_bel (fun it hit => hok it (by simp [hit])) b h

theorem stg_start {B : Base} {s0 : St} {a : Act} {w : World} {E : Env} {F : Nat → Prop} {its : List It} (hs : Sim B s0 a w E F) :
    Sim B (stgI (fun _ => true) its s0) a w (E ++ List.replicate (hpI (fun _ => true) its).length ⟨none, 0, 0⟩) F := by
  have hr := hs.rel
  have hg := hpI_gone its
  have hlen := hr.hr.len
  generalize hR : hpI (fun _ => true) its = R at hg
  have he : ∀ id e, E[id]? = some e → (E ++ List.replicate R.length ⟨none, 0, 0⟩)[id]? = some e := fun id e h => by
    rw [List.getElem?_append_left (List.getElem?_eq_some_iff.1 h).1]; exact h
  have evo : Evo E F w (E ++ List.replicate R.length ⟨none, 0, 0⟩) F w (fun _ => True) := ⟨fun _ h => h, fun _ _ => rfl, fun id e _ h => he id e h, fun _ _ h => h⟩
  have old : ∀ (id : Nat) (e : En) (b : Blk), (E ++ List.replicate R.length ⟨none, 0, 0⟩)[id]? = some e → (s0.heap ++ R)[id]? = some b → (E[id]? = some e ∧ s0.heap[id]? = some b) ∨ b = .gone := by
    intro id e b h1 h2
    rcases Nat.lt_or_ge id s0.heap.length with h | h
    · rw [List.getElem?_append_left h] at h2
      rw [List.getElem?_append_left (by omega)] at h1
      exact .inl ⟨h1, h2⟩
    · rw [List.getElem?_append_right h] at h2
      exact .inr (hg b (List.mem_of_getElem? h2))
  have oldl : ∀ (id : Nat) (e : En) (b : Blk), (E ++ List.replicate R.length ⟨none, 0, 0⟩)[id]? = some e → (s0.heap ++ R)[id]? = some b → b.live = true → (E[id]? = some e ∧ s0.heap[id]? = some b) := by
    intro id e b h1 h2 h3
    rcases old id e b h1 h2 with h | rfl
    · exact h
    · cases h3
  have hh : (stgI (fun _ => true) its s0).heap = s0.heap ++ R := by simp only [stgI, hR]
  refine ⟨⟨hr.os, hr.tape, hr.output, hr.size, hr.F0, hr.only, hr.same, hr.lt, ⟨by rw [hh]; simp [hlen], ?_, ?_, ?_⟩, ?_, ?_, hr.sz⟩, hs.defers, ?_⟩
  · intro id e b h1 h2
    rw [hh] at h2
    rcases old id e b h1 h2 with ⟨g1, g2⟩ | rfl
    · exact (hr.hr.blk id e b g1 g2).evo evo (fun _ _ => trivial) fun _ _ => rfl
    · trivial
  · intro id b e blk h1 h2 h3 h4
    rw [hh] at h3
    obtain ⟨g1, g2⟩ := oldl id e blk h1 h3 h4
    exact hr.hr.free id b e blk g1 h2 g2 h4
  · intro i j b ei ej bi bj h1 h2 h3 h4 h5 h6 h7 h8
    rw [hh] at h5 h6
    obtain ⟨g1, g2⟩ := oldl i ei bi h1 h5 h7
    obtain ⟨g3, g4⟩ := oldl j ej bj h2 h6 h8
    exact hr.hr.inj i j b ei ej bi bj g1 g3 h3 h4 g2 g4 h7 h8
  · intro id b e blk h1 h2 h3 h4
    rw [hh] at h2
    obtain ⟨g1, g2⟩ := oldl id e blk h1 h2 h3
    exact hr.src id b e blk g1 g2 h3 h4
  · intro i hi
    obtain ⟨e, h1, h2⟩ := hr.keep i hi
    exact ⟨e, he i e h1, h2⟩
  · intro j x hx
    rw [stgI_get] at hx
    split at hx
    · cases hx
    · rename_i hany
      rw [applyI_other its s0 j fun it hit e => hany (by simp only [List.any_eq_true, Bool.true_and, beq_iff_eq]; exact ⟨it, hit, e⟩)] at hx
      obtain ⟨v, hv, hr⟩ := hs.tm j x hx
      exact ⟨v, hv, hr.evo evo fun _ _ => trivial⟩

theorem Sim.told {B : Base} {s s' : St} {a : Act} {w : World} {E : Env} {F : Nat → Prop} (hs : Sim B s a w E F) (hh : s'.heap = s.heap) (ht : ∀ j x, tget s'.tm j = some x → tget s.tm j = some x) : Sim B s' a w E F := by
  obtain ⟨tm', heap'⟩ := s'
  simp only at hh
  subst hh
  exact ⟨⟨hs.rel.os, hs.rel.tape, hs.rel.output, hs.rel.size, hs.rel.F0, hs.rel.only, hs.rel.same, hs.rel.lt, hs.rel.hr, hs.rel.src, hs.rel.keep, hs.rel.sz⟩, hs.defers, fun i x hx => hs.tm i x (ht i x hx)⟩

theorem stg_end {B : Base} {s0 : St} {a : Act} {w : World} {E : Env} {F : Nat → Prop} {its : List It} {pd : Nat → Bool} (hp : ∀ it, it ∈ its → pd it.i = false) (hs : Sim B (stgI pd its s0) a w E F) : Sim B (applyI s0 its) a w E F := by
  refine hs.told ?_ fun j x hx => ?_
  · rw [applyI_heap]
    simp only [stgI]
    rw [hpI_congr (pd := pd) (pd' := fun _ => false) fun x hx _ => hp x hx]
  · rw [stgI_get, if_neg]
    · exact hx
    · simp only [List.any_eq_true, Bool.and_eq_true, beq_iff_eq, not_exists, not_and]
      intro it hit h
      rw [hp it hit] at h; cases h

theorem item_eq {its : List It} (hn : (its.map It.i).Nodup) : ∀ {x y : It}, x ∈ its → y ∈ its → x.i = y.i → x = y := by
  induction its with
  | nil => intro x y h; cases h
  | cons z r ih =>
    intro x y hx hy e
    simp only [List.map_cons, List.nodup_cons] at hn
    rcases List.mem_cons.1 hx with h | h <;> rcases List.mem_cons.1 hy with h' | h'
    · exact h.trans h'.symm
    · subst h; exact absurd (by rw [e]; exact List.mem_map_of_mem h') hn.1
    · subst h'; exact absurd (by rw [← e]; exact List.mem_map_of_mem h) hn.1
    · exact ih hn.2 h h' e

theorem stg_tm {s0 : St} {its : List It} (hn1 : (its.map It.i).Nodup) (hn2 : (its.map It.d).Nodup) {pd : Nat → Bool} {it : It} (hit : it ∈ its) {j : Nat} {x : V} (h : tget (stgI (fun k => pd k && !(k == it.i)) its s0).tm j = some x) :
    (j = it.d ∧ x = it.v) ∨ (j ≠ it.d ∧ tget (stgI pd its s0).tm j = some x) := by
  rw [stgI_get] at h
  split at h
  · cases h
  rename_i hany
  by_cases hj : j = it.d
  · subst hj
    rw [applyI_get its s0 hn2 it hit] at h
    exact .inl ⟨rfl, (Option.some.inj h).symm⟩
  · refine .inr ⟨hj, ?_⟩
    rw [stgI_get, if_neg]
    · exact h
    · intro hc
      simp only [List.any_eq_true, Bool.and_eq_true, beq_iff_eq] at hc
      obtain ⟨y, hy, h1, h2⟩ := hc
      refine hany (List.any_eq_true.2 ⟨y, hy, ?_⟩)
      have : y.i ≠ it.i := fun e => hj (by rw [← h2, item_eq hn1 hy hit e])
      simp [h1, h2, this]

theorem stg_call {B : Base} {s0 : St} {a : Act} {w : World} {E : Env} {F : Nat → Prop} {its : List It} (hn1 : (its.map It.i).Nodup) (hn2 : (its.map It.d).Nodup) {pd : Nat → Bool} {it : It} (hit : it ∈ its) (hb : it.b = none)
    (hs : Sim B ((stgI pd its s0).put (some it.d) it.v) a w E F) : Sim B (stgI (fun k => pd k && !(k == it.i)) its s0) a w E F := by
  refine hs.told ?_ fun j x hx => ?_
  · simp only [stgI, St.put]
    rw [hpI_congr (pd := fun k => pd k && !(k == it.i)) (pd' := pd)]
    intro x hx hxb
    have : x.i ≠ it.i := fun e => by rw [item_eq hn1 hx hit e, hb] at hxb; cases hxb
    simp [this]
  · simp only [St.put, tget_tput]
    rcases stg_tm hn1 hn2 hit hx with ⟨rfl, rfl⟩ | ⟨h1, h2⟩
    · simp
    · rw [if_neg h1]; exact h2

theorem renHeap_of {r : List Nat} {H : List Blk} : ∀ {l : List Blk} {q : List Nat}, l.length = q.length → (∀ (j : Nat) (b : Blk) (i : Nat), l[j]? = some b → q[j]? = some i → H[i]? = some (Blk.ren r b)) → renHeap r l q H
  | [], [], _, _ => trivial
  | b :: l, i :: q, hl, h => ⟨h 0 b i rfl rfl, renHeap_of (by simpa using hl) fun j c k h1 h2 => h (j + 1) c k (by simpa using h1) (by simpa using h2)⟩
  | [], i :: q, hl, _ => by simp at hl
  | b :: l, [], hl, _ => by simp at hl
theorem belHeap_of {n : Nat} : ∀ {l : List Blk}, (∀ b, b ∈ l → b.bel n = true) → belHeap n l = true
  | [], _ => rfl
  | b :: l, h => by
    simp only [belHeap, Bool.and_eq_true]
    exact ⟨h b List.mem_cons_self, belHeap_of fun c hc => h c (List.mem_cons_of_mem _ hc)⟩

theorem stg_new {P : Program} {ops : Array Oper} {B : Base} {s0 : St} {a : Act} {w : World} {E : Env} {F : Nat → Prop} {its : List It} (hn1 : (its.map It.i).Nodup) (hn2 : (its.map It.d).Nodup) (hok : ∀ it, it ∈ its → ItOk P ops s0 it) (hsl : SlotsI s0.heap.length its)
    (hb1 : belTm s0.heap.length s0.tm = true) (hb2 : belHeap s0.heap.length s0.heap = true) (hk : ∀ i, i ∈ B.keep → i < s0.heap.length) {pd : Nat → Bool} {it : It} (hit : it ∈ its) {b : Blk} (hb : it.b = some b) (hp : pd it.i = true)
    (hs : Sim B ⟨tput (stgI pd its s0).tm it.d (.ptr (stgI pd its s0).heap.length 0 0), (stgI pd its s0).heap ++ [b]⟩ a w E F) : ∃ E', Sim B (stgI (fun k => pd k && !(k == it.i)) its s0) a w E' F := by
  obtain ⟨g, hv, hg1, hg2⟩ := slot_at pd its s0.heap hsl it b hit hb
  have hset := slot_set it.i pd its s0.heap hn1 hsl it b g hit hb rfl hv
  have hH : (stgI pd its s0).heap = s0.heap ++ hpI pd its := rfl
  have huH : (stgI (fun k => pd k && !(k == it.i)) its s0).heap = (stgI pd its s0).heap.set g b := hset
  have hN : s0.heap.length + (hpI pd its).length = (stgI pd its s0).heap.length := by rw [hH]; simp
  rw [hN] at hg2
  have hbb : b.bel 0 = true := by
    obtain ⟨o, _, _, _, hm⟩ := hok it hit
    rw [hb] at hm
    obtain ⟨t, zs, _, hz, rfl⟩ := hm
    exact kzero_bel hz
  have hbel : ∀ c, c ∈ (stgI (fun k => pd k && !(k == it.i)) its s0).heap → c.bel s0.heap.length = true := fun c hc => by
    simp only [stgI, List.mem_append] at hc
    rcases hc with hc | hc
    · obtain ⟨j, hj⟩ := List.getElem?_of_mem hc
      exact belHeap_get hb2 j c hj
    · exact Blk.bel_up (Nat.zero_le _) c (hpI_bel hok c hc)
  have htm : ∀ j x, j ≠ it.d → tget (stgI pd its s0).tm j = some x → V.bel s0.heap.length x = true ∨ ∃ g', x = .ptr g' 0 0 ∧ g' ≠ g ∧ g' < (stgI pd its s0).heap.length := by
    intro j x hj hx
    rw [stgI_get] at hx
    split at hx
    · cases hx
    by_cases hd : ∃ y, y ∈ its ∧ y.d = j
    · obtain ⟨y, hy, rfl⟩ := hd
      rw [applyI_get its s0 hn2 y hy] at hx
      obtain rfl := (Option.some.inj hx).symm
      obtain ⟨o, _, _, _, hm⟩ := hok y hy
      cases hyb : y.b with
      | none =>
        rw [hyb] at hm
        exact .inl (bel_up (Nat.zero_le _) _ hm.1)
      | some c =>
        obtain ⟨g', h1, h2, h3⟩ := slot_at pd its s0.heap hsl y c hy hyb
        refine .inr ⟨g', h1, fun e => hj ?_, by omega⟩
        subst e
        rw [slot_inj its _ hsl hn1 y it g' hy hit (by simp [hyb]) (by simp [hb]) h1 hv]
    · rw [applyI_other its s0 j fun y hy e => hd ⟨y, hy, e⟩] at hx
      exact .inl (belTm_get hb1 j x hx)
  generalize hu : stgI (fun k => pd k && !(k == it.i)) its s0 = u at *
  generalize ht : stgI pd its s0 = t at *
  let r := (List.range t.heap.length).map fun i => if i = g then t.heap.length else i
  have rlen : r.length = t.heap.length := by simp [r]
  have rget : ∀ j, j < t.heap.length → r[j]? = some (if j = g then t.heap.length else j) := fun j hj => by
    simp only [r, List.getElem?_map, List.getElem?_range hj, Option.map_some]
  have rfix : ∀ j, j < t.heap.length → j ≠ g → r.getD j 0 = j := fun j hj hjg => by
    rw [List.getD_eq_getElem?_getD, rget j hj, if_neg hjg]; rfl
  have rg : r.getD g 0 = t.heap.length := by
    rw [List.getD_eq_getElem?_getD, rget g hg2, if_pos rfl]; rfl
  have rlow : ∀ j, j < s0.heap.length → r.getD j 0 = j := fun j hj => rfix j (by omega) (by omega)
  have hren : Ren B.keep r ⟨[], u.heap⟩ ⟨tput t.tm it.d (.ptr t.heap.length 0 0), t.heap ++ [b]⟩ := by
    refine ⟨?_, fun i hi => ?_, renHeap_of (by rw [huH]; simp [rlen]) fun j c i h1 h2 => ?_, trivial, rfl, ?_⟩
    · show List.Pairwise _ _
      rw [List.pairwise_map]
      refine List.Pairwise.imp_of_mem ?_ (List.nodup_range (n := t.heap.length))
      intro x y hx hy hne
      have := List.mem_range.1 hx
      have := List.mem_range.1 hy
      split <;> split <;> omega
    · have := hk i hi
      rw [rget i (by omega), if_neg (by omega)]
    · have hcb := hbel c (List.mem_of_getElem? h1)
      rw [Blk.ren_fix rlow c hcb]
      have hj : j < t.heap.length := by have := (List.getElem?_eq_some_iff.1 h2).1; omega
      rw [rget j hj] at h2
      simp only [huH] at h1
      rw [List.getElem?_set] at h1
      by_cases hjg : j = g
      · subst hjg
        simp only [if_true] at h1 h2
        obtain rfl := Option.some.inj h2
        rw [if_pos hj] at h1
        simpa using h1
      · rw [if_neg hjg] at h2
        rw [if_neg (fun e => hjg e.symm)] at h1
        obtain rfl := Option.some.inj h2
        rw [List.getElem?_append_left hj]
        exact h1
    · exact belHeap_of fun c hc => Blk.bel_up (by omega) c (hbel c hc)
  have h2 := ren_sim hren hs
  have hE : ∀ (j i : Nat), r[j]? = some i → (r.map fun i => E[i]?.getD ⟨none, 0, 0⟩)[j]? = E[i]? := fun j i hj => by
    have hi : i < E.length := by
      rw [hs.rel.hr.len]
      have hj' : j < t.heap.length := by have := (List.getElem?_eq_some_iff.1 hj).1; omega
      rw [rget j hj'] at hj
      have := Option.some.inj hj
      simp only [List.length_append, List.length_cons, List.length_nil]
      split at this <;> omega
    simp [hj, List.getElem?_eq_getElem hi]
  refine ⟨_, ⟨⟨h2.rel.os, h2.rel.tape, h2.rel.output, h2.rel.size, h2.rel.F0, h2.rel.only, h2.rel.same, h2.rel.lt, h2.rel.hr, h2.rel.src, h2.rel.keep, h2.rel.sz⟩, h2.defers, fun j x hx => ?_⟩⟩
  have fin : ∀ y, tget (tput t.tm it.d (.ptr t.heap.length 0 0)) j = some y → y = V.ren r x → V.bel r.length x = true → ∃ v, a.tmps[j]? = some v ∧ VR (r.map fun i => E[i]?.getD ⟨none, 0, 0⟩) F w x v := fun y h1 h2 h3 => by
    obtain ⟨v, hv, hr⟩ := hs.tm j y h1
    exact ⟨v, hv, ren_VR hE hr x h2 h3⟩
  rw [← hu] at hx
  rcases stg_tm hn1 hn2 hit hx with ⟨rfl, rfl⟩ | ⟨h3, h4⟩
  · rw [hv] at fin ⊢
    refine fin _ (by rw [tget_tput, if_pos rfl]) ?_ ?_
    · simp only [V.ren, rg]
    · simp only [V.bel, rlen, decide_eq_true_eq]; exact hg2
  · rw [ht] at h4
    refine fin x (by rw [tget_tput, if_neg h3]; exact h4) ?_ ?_
    · rcases htm j x h3 h4 with h5 | ⟨g', rfl, h6, h7⟩
      · rw [ren_fix rlow x h5]
      · simp only [V.ren, rfix g' h7 h6]
    · rcases htm j x h3 h4 with h5 | ⟨g', rfl, h6, h7⟩
      · exact bel_up (by omega) x h5
      · simp only [V.bel, rlen, decide_eq_true_eq]; exact h7

def setAll : List Nat → Array Bool → Array Bool
  | [], a => a
  | i :: r, a => setAll r (a.setIfInBounds i true)
theorem setAll_get : ∀ (l : List Nat) (a : Array Bool) (k : Nat), (setAll l a)[k]? = if k ∈ l then a[k]?.map (fun _ => true) else a[k]?
  | [], a, k => by simp [setAll]
  | i :: r, a, k => by
    rw [setAll, setAll_get r]
    rw [Array.getElem?_setIfInBounds]
    by_cases hki : i = k
    · subst hki
      simp only [if_true, List.mem_cons, true_or]
      by_cases h : i < a.size
      · simp [h]
      · simp [h]
    · have hki' : ¬ k = i := fun e => hki e.symm
      simp only [hki, if_false, List.mem_cons, hki', false_or]

def goodP (ops : Array Oper) (all : List Nat) (listed : Array Bool) : Bool := !(Region.ready .any ops listed).isEmpty && (Region.ready .any ops listed).all fun j => all.contains j && listed[j]? == some false
def depsOk (ops : Array Oper) (listed : Array Bool) (i : Nat) : Bool := match ops[i]? with
  | some o => o.after.toList.all fun e => !(Region.binds .any e) || listed.getD e.on false
  | none => false
def consP (ops : Array Oper) (all : List Nat) (listed : Array Bool) : Bool := all.all fun i => !(listed.getD i false) || depsOk ops listed i
theorem consP_step {ops : Array Oper} {all : List Nat} {listed : Array Bool} {j : Nat} (h : consP ops all listed = true) (hj : j ∈ Region.ready .any ops listed) : consP ops all (listed.setIfInBounds j true) = true := by
  unfold consP at *
  rw [List.all_eq_true] at *
  have mono : ∀ i, depsOk ops listed i = true → depsOk ops (listed.setIfInBounds j true) i = true := fun i hi => by
    unfold depsOk at *
    split at hi
    · rw [List.all_eq_true] at *
      intro e he
      have := hi e he
      rw [Bool.or_eq_true] at this ⊢
      exact this.imp id fun h => getD_set_true h
    · cases hi
  intro i hi
  by_cases hij : i = j
  · subst hij
    obtain ⟨_, o, ho, hall⟩ := mem_ready.1 hj
    have : depsOk ops listed i = true := by
      unfold depsOk
      rw [ho]
      simp only [List.all_eq_true, Array.mem_toList_iff, Bool.or_eq_true, Bool.not_eq_true']
      intro e he
      cases hb : Region.binds .any e with
      | false => exact .inl rfl
      | true => exact .inr (hall e he hb)
    rw [mono i this, Bool.or_true]
  · have := h i hi
    rw [getD_set_ne false (Ne.symm hij)]
    rw [Bool.or_eq_true] at this ⊢
    exact this.imp id (mono i)
def parChk (ops : Array Oper) (all : List Nat) : List Nat → Array Bool → Bool → Bool
  | [], listed, sk => !sk || !(consP ops all listed) || goodP ops all listed
  | i :: r, listed, sk => parChk ops all r (listed.setIfInBounds i true) sk && parChk ops all r listed true
theorem parChk_spec {ops : Array Oper} {all : List Nat} : ∀ (l : List Nat) (listed : Array Bool) (sk : Bool), parChk ops all l listed sk = true → ∀ pd : Nat → Bool, (sk = true ∨ ∃ i, i ∈ l ∧ pd i = true) → consP ops all (setAll (l.filter fun i => !(pd i)) listed) = true → goodP ops all (setAll (l.filter fun i => !(pd i)) listed) = true
  | [], listed, sk, h, pd, hp, hc => by
    rcases hp with rfl | ⟨i, h1, _⟩
    · simp only [List.filter_nil, setAll] at hc ⊢
      simpa [parChk, hc] using h
    · cases h1
  | i :: r, listed, sk, h, pd, hp, hc => by
    simp only [parChk, Bool.and_eq_true] at h
    cases hpi : pd i with
    | true =>
      rw [List.filter_cons_of_neg (by simp [hpi])] at hc ⊢
      exact parChk_spec r listed true h.2 pd (.inl rfl) hc
    | false =>
      rw [List.filter_cons_of_pos (by simp [hpi])] at hc ⊢
      refine parChk_spec r _ sk h.1 pd (hp.imp id ?_) hc
      rintro ⟨k, h1, h2⟩
      rcases List.mem_cons.1 h1 with rfl | h1
      · rw [hpi] at h2; cases h2
      · exact ⟨k, h1, h2⟩

end Go.Aw

namespace Go.Aw
set_option linter.unusedSimpArgs false
set_option linter.unusedVariables false
open Go.RowKit

variable {P : Program} {ops : Array Oper} {Q : Exit → Act → World → Prop}

def DepOk (ops : Array Oper) (its : List It) : Prop := ∀ it, it ∈ its → ∀ o c, ops[it.i]? = some o → o.op = .call c → ∀ t, Operand.tmp t ∈ callOps c → ∀ y, y ∈ its → y.d ≠ t

theorem stg_ev {s0 : St} {its : List It} {pd : Nat → Bool} {l : List Operand} (h : ∀ t, Operand.tmp t ∈ l → ∀ y, y ∈ its → y.d ≠ t) : ∀ y, y ∈ l → (stgI pd its s0).ev y = s0.ev y := by
  intro y hy
  cases y with
  | tmp t =>
    simp only [St.ev, St.get]
    rw [stgI_get, if_neg, applyI_other its s0 t (h t hy)]
    intro hc
    simp only [List.any_eq_true, Bool.and_eq_true, beq_iff_eq] at hc
    obtain ⟨z, hz, _, h2⟩ := hc
    exact h t hy z hz h2
  | _ => rfl

theorem item_vc {kp : List Nat} {s0 : St} {its : List It} (hdep : DepOk ops its) (hok : ∀ it, it ∈ its → ItOk P ops s0 it) {pd : Nat → Bool} {it : It} (hit : it ∈ its) {K : St → Prop}
    (h1 : it.b = none → K ((stgI pd its s0).put (some it.d) it.v)) (h2 : ∀ b, it.b = some b → K ⟨tput (stgI pd its s0).tm it.d (.ptr (stgI pd its s0).heap.length 0 0), (stgI pd its s0).heap ++ [b]⟩) :
    ∃ o, ops[it.i]? = some o ∧ OpVC P kp ops o (stgI pd its s0) K := by
  obtain ⟨o, ho, hg, hd, hm⟩ := hok it hit
  refine ⟨o, ho, ?_⟩
  cases hb : it.b with
  | none =>
    rw [hb] at hm
    obtain ⟨hbel, c, p, f, args, ds, hc, hv, hR, hT, hp, hds, hpc⟩ := hm
    have hev := stg_ev (s0 := s0) (its := its) (pd := pd) (l := callOps c) fun t ht y hy => hdep it hit o c ho hc t ht y hy
    refine call_vc hg hc hv (opR_congrP hv hev hR) ((callT_congrP hev).trans hT) hds hp hbel hpc ?_
    rw [hd]
    exact h1 hb
  | some b =>
    rw [hb] at hm
    obtain ⟨t, zs, hc, hz, rfl⟩ := hm
    refine alloc_vc hg hc hz ?_
    rw [hd]
    exact h2 _ hb

theorem setAll_step {l : List Nat} {pd : Nat → Bool} {a : Array Bool} {j : Nat} (hj : j ∈ l) : (setAll (l.filter fun i => !(pd i)) a).setIfInBounds j true = setAll (l.filter fun i => !(pd i && !(i == j))) a := by
  apply Array.ext_getElem?
  intro k
  rw [Array.getElem?_setIfInBounds, setAll_get]
  have hsz : (setAll (l.filter fun i => !(pd i)) a).size = a.size := by
    have : ∀ (l : List Nat) (a : Array Bool), (setAll l a).size = a.size := by
      intro l
      induction l with
      | nil => intro a; rfl
      | cons x r ih => intro a; rw [setAll, ih]; simp
    exact this _ _
  by_cases hkj : j = k
  · subst hkj
    rw [if_pos rfl, setAll_get, hsz]
    rw [if_pos (show j ∈ l.filter fun i => !(pd i && !(i == j)) from List.mem_filter.2 ⟨hj, by simp⟩)]
    by_cases h : j < a.size
    · simp [h]
    · simp [h]
  · rw [if_neg hkj, setAll_get]
    have : (k ∈ l.filter fun i => !(pd i && !(i == j))) ↔ (k ∈ l.filter fun i => !(pd i)) := by
      have : (k == j) = false := by simpa using fun e => hkj e.symm
      simp [List.mem_filter, this]
    simp only [this]

theorem par_sound {B : Base} {n m : Nat} (hd : dstsOk n ops = true) {s0 : St} {its : List It} (hn1 : (its.map It.i).Nodup) (hn2 : (its.map It.d).Nodup) (hok : ∀ it, it ∈ its → ItOk P ops s0 it) (hsl : SlotsI s0.heap.length its)
    (hb1 : belTm s0.heap.length s0.tm = true) (hb2 : belHeap s0.heap.length s0.heap = true) (hk : ∀ i, i ∈ B.keep → i < s0.heap.length) (hdep : DepOk ops its) (l0 : Array Bool)
    (hchk : parChk ops (its.map It.i) (its.map It.i) l0 false = true)
    (fin : ∀ a w E F, Sim B (applyI s0 its) a w E F → a.tmps.size = n → ∀ fuel, m ≤ fuel → wpAnyT P ops Q fuel (setAll (its.map It.i) l0) a w) :
    ∀ (k : Nat) (pd : Nat → Bool), (its.filter fun it => pd it.i).length = k → consP ops (its.map It.i) (setAll ((its.map It.i).filter fun i => !(pd i)) l0) = true → ∀ a w E F, a.tmps.size = n → Sim B (stgI pd its s0) a w E F → ∀ fuel, k + m ≤ fuel → wpAnyT P ops Q fuel (setAll ((its.map It.i).filter fun i => !(pd i)) l0) a w
  | 0, pd, hcnt, hcons, a, w, E, F, hn, hs, fuel, hf => by
    have hp : ∀ it, it ∈ its → pd it.i = false := fun it hit => by
      have := List.length_eq_zero_iff.1 hcnt
      rw [List.filter_eq_nil_iff] at this
      simpa using this it hit
    rw [List.filter_eq_self.2 fun i hi => by
      obtain ⟨it, hit, rfl⟩ := List.mem_map.1 hi
      simp [hp it hit]]
    exact fin a w E F (stg_end hp hs) hn fuel (by omega)
  | k + 1, pd, hcnt, hcons, a, w, E, F, hn, hs, 0, hf => by omega
  | k + 1, pd, hcnt, hcons, a, w, E, F, hn, hs, fuel + 1, hf => by
    obtain ⟨z, hz⟩ : ∃ z, z ∈ its.filter fun it => pd it.i := by
      cases hl : its.filter fun it => pd it.i with
      | nil => rw [hl] at hcnt; simp at hcnt
      | cons z r => exact ⟨z, by simp⟩
    obtain ⟨hz1, hz2⟩ := List.mem_filter.1 hz
    have hgood := parChk_spec _ _ _ hchk pd (.inr ⟨z.i, List.mem_map_of_mem hz1, hz2⟩) hcons
    simp only [goodP, Bool.and_eq_true, Bool.not_eq_true', List.isEmpty_eq_false_iff, List.all_eq_true, List.contains_iff_mem, beq_iff_eq] at hgood
    refine ⟨fun h0 => absurd h0 hgood.1, fun j hj => ?_⟩
    obtain ⟨hjl, hjf⟩ := hgood.2 j hj
    obtain ⟨it, hit, rfl⟩ := List.mem_map.1 hjl
    have hpit : pd it.i = true := by
      rw [setAll_get] at hjf
      by_cases h : it.i ∈ (its.map It.i).filter fun i => !(pd i)
      · rw [if_pos h] at hjf
        simp only [Option.map_eq_some_iff] at hjf
        obtain ⟨_, _, h2⟩ := hjf
        cases h2
      · cases hpp : pd it.i with
        | true => rfl
        | false => exact absurd (List.mem_filter.2 ⟨List.mem_map_of_mem hit, by simp [hpp]⟩) h
    have hcnt2 : (its.filter fun x => pd x.i && !(x.i == it.i)).length = k := by
      have key : ∀ l : List It, (l.map It.i).Nodup → it ∈ l → (l.filter fun x => pd x.i).length = (l.filter fun x => pd x.i && !(x.i == it.i)).length + 1 := by
        intro l
        induction l with
        | nil => intro _ h; cases h
        | cons x r ih =>
          intro hnd h
          simp only [List.map_cons, List.nodup_cons] at hnd
          rcases List.mem_cons.1 h with h | h
          · subst h
            rw [List.filter_cons_of_pos (by simpa using hpit), List.filter_cons_of_neg (by simp)]
            simp only [List.length_cons, Nat.add_right_cancel_iff]
            congr 1
            apply List.filter_congr
            intro y hy
            have : y.i ≠ it.i := fun e => hnd.1 (by rw [← e]; exact List.mem_map_of_mem hy)
            simp [this]
          · have hx : x.i ≠ it.i := fun e => hnd.1 (by rw [e]; exact List.mem_map_of_mem h)
            have := ih hnd.2 h
            cases hpx : pd x.i with
            | true =>
              rw [List.filter_cons_of_pos (by simpa using hpx), List.filter_cons_of_pos (by simp [hpx, hx])]
              simp only [List.length_cons, this]
            | false =>
              rw [List.filter_cons_of_neg (by simp [hpx]), List.filter_cons_of_neg (by simp [hpx])]
              exact this
      have := key its hn1 hit
      omega
    have ih := fun a w E F hn hs => par_sound hd hn1 hn2 hok hsl hb1 hb2 hk hdep l0 hchk fin k (fun i => pd i && !(i == it.i)) hcnt2 (by rw [← setAll_step (List.mem_map_of_mem hit)]; exact consP_step hcons hj) a w E F hn hs fuel (by omega)
    rw [← setAll_step (List.mem_map_of_mem hit)] at ih
    obtain ⟨o, ho, hvc⟩ := item_vc (kp := B.keep) (pd := pd) hdep hok hit (K := fun t => ∀ a w E F, Sim B t a w E F → ∃ E', Sim B (stgI (fun k => pd k && !(k == it.i)) its s0) a w E' F)
      (fun hb a w E F h => ⟨E, stg_call hn1 hn2 hit hb h⟩) (fun b hb a w E F h => stg_new hn1 hn2 hok hsl hb1 hb2 hk hit hb hpit h)
    rcases op_sound (Q := Q) hs (fun d hd' => by rw [hn]; exact dstsOk_spec hd ho d hd') hvc with ⟨v, s', hK, hs', hw⟩ | ⟨hnq, hw⟩
    · obtain ⟨E', h'⟩ := hK _ _ _ _ hs'
      have ih' := ih _ w E' F (by rw [size_put]; exact hn) h'
      have hy : YieldsK P ops w o v a := hw
      exact hy.wpOp ho ⟨.inr (Keep.refl w), ih'⟩
    · unfold wpOp
      simp only [ho]
      rcases hw with ⟨hw, hwp⟩ | ⟨hw, s', F', hK, hs'⟩
      · rw [hw, if_pos rfl]
        refine .inl (Oper.wp_mono (fun a' w' ⟨hkt, v, s', E', F', ha, hK, hs'⟩ => ?_) hwp)
        subst ha
        obtain ⟨E2, h'⟩ := hK _ _ _ _ hs'
        exact ⟨by simpa [ho] using hkt, ih _ w' E2 F' (by rw [size_put]; exact hn) h'⟩
      · rw [hw]
        obtain ⟨E2, h'⟩ := hK _ _ _ _ hs'
        exact ⟨.inr (Keep.refl w), ih _ w E2 F' (by rw [size_put]; exact hn) h'⟩

def preOk (ops : Array Oper) : List Nat → Array Bool → Bool
  | [], _ => true
  | i :: r, listed =>
    (match ops[i]? with
     | none => false
     | some o => if kindQ o.op then (Region.ready .any ops listed).contains i && freeT ops listed i else Region.ready .any ops listed == [i]) && preOk ops r (listed.setIfInBounds i true)

theorem pre_sound {B : Base} {n m : Nat} (hd : dstsOk n ops = true) (hsel : Region.noSelect ops = true) (hQ : ∀ c a w, ¬ Q (.panic c) a w) : ∀ (l : List Nat) (listed : Array Bool) (s : St) (a : Act) (w : World) (E : Env) (F : Nat → Prop) (K : St → Prop), a.tmps.size = n → Sim B s a w E F →
    OpsVC P B.keep ops (l.filterMap (ops[·]?)) s K → preOk ops l listed = true →
    (∀ a' w' s' E' F', K s' → Sim B s' a' w' E' F' → a'.tmps.size = n → ∀ fuel, m ≤ fuel → wpAnyT P ops Q fuel (setAll l listed) a' w') → ∀ fuel, l.length + m ≤ fuel → wpAnyT P ops Q fuel listed a w
  | [], listed, s, a, w, E, F, K, hn, hs, h, hok, hq, fuel, hf => hq a w s E F h hs hn fuel (by simpa using hf)
  | i :: l, listed, s, a, w, E, F, K, hn, hs, h, hok, hq, 0, hf => by simp at hf
  | i :: l, listed, s, a, w, E, F, K, hn, hs, h, hok, hq, fuel + 1, hf => by
    simp only [preOk, Bool.and_eq_true] at hok
    obtain ⟨hok, hrest⟩ := hok
    split at hok
    · cases hok
    rename_i o ho
    simp only [List.filterMap_cons, ho, OpsVC] at h
    have ih := fun s a w E F hn hs h => pre_sound hd hsel hQ l (listed.setIfInBounds i true) s a w E F K hn hs h hrest hq fuel (by simp at hf; omega)
    rcases op_sound (Q := Q) hs (fun d hd' => by rw [hn]; exact dstsOk_spec hd ho d hd') h with ⟨v, s', hK, hs', hw⟩ | ⟨hnq, hw⟩
    · have ih' := ih s' _ w E F (by rw [size_put]; exact hn) hs' hK
      have hy : YieldsK P ops w o v a := hw
      split at hok
      · simp only [Bool.and_eq_true] at hok
        exact free_first ho (noSel hsel) (fun c a w hh => absurd hh (hQ c _ w)) fuel listed a w hok.2 (by simpa using hok.1) hy ih'
      · have hr : Region.ready .any ops listed = [i] := by simpa using hok
        refine ⟨(fun h0 => by rw [hr] at h0; cases h0), fun j hj => ?_⟩
        rw [hr] at hj
        simp at hj
        subst hj
        exact hy.wpOp ho ⟨.inr (Keep.refl w), ih'⟩
    · rw [hnq] at hok
      have hr : Region.ready .any ops listed = [i] := by simpa using hok
      refine ⟨(fun h0 => by rw [hr] at h0; cases h0), fun j hj => ?_⟩
      rw [hr] at hj
      simp at hj
      subst hj
      unfold wpOp
      simp only [ho]
      rcases hw with ⟨hw, hwp⟩ | ⟨hw, s', F', hK, hs'⟩
      · rw [hw, if_pos rfl]
        refine .inl (Oper.wp_mono (fun a' w' ⟨hkt, v, s', E', F', ha, hK, hs'⟩ => ?_) hwp)
        subst ha
        exact ⟨by simpa [ho] using hkt, ih s' _ w' E' F' (by rw [size_put]; exact hn) hs' hK⟩
      · rw [hw]
        exact ⟨.inr (Keep.refl w), ih s' _ w E F' (by rw [size_put]; exact hn) hs' hK⟩

def ParK (P : Program) (f : FuncId) (ds : List D) (dst : Nat) (s : St) (k : St → Prop) : Prop := ∃ x0, V.bel 0 x0 = true ∧ (PC P f ds fun x H => x = x0 ∧ H = []) ∧ k ⟨tput s.tm dst x0, s.heap⟩
def P3 (P : Program) (ds : Option (List D)) (p : Prop) (f : FuncId) (dst : Nat) (s : St) (k : St → Prop) : Prop := match ds with
  | some ds => p ∧ ParK P f ds dst s k
  | none => False
def P2 (P : Program) (q : Option (Prop × V)) (t : Option (Prop × FuncId × List V)) (dst : Nat) (s : St) (k : St → Prop) : Prop := match q, t with
  | none, some (p, f, args) => P3 P (dVs args) p f dst s k
  | _, _ => False
def PZ (zs : Option (List V)) (dst : Nat) (s : St) (k : St → Prop) : Prop := match zs with
  | some zs => k ⟨tput s.tm dst (.ptr s.heap.length 0 0), s.heap ++ [.cells zs]⟩
  | none => False
def P1 (P : Program) (s0 : St) (op : Op) (dst : Option Nat) (s : St) (k : St → Prop) : Prop := match op, dst with
  | .call c, some d => P2 P (opR P s0 (.call c)) (callT s0 c) d s k
  | .alloc t, some d => PZ (kzero P t) d s k
  | _, _ => False
def P0 (P : Program) (s0 : St) (o : Option Oper) (s : St) (k : St → Prop) : Prop := match o with
  | some o => P1 P s0 o.op o.dst s k
  | none => False
def parRun (P : Program) (kp : List Nat) (ops : Array Oper) (s0 : St) : List Nat → DT → St → (St → Prop) → Prop
  | [], d, s, K => contRun P kp ops (.dt d) s K
  | i :: r, d, s, K => P0 P s0 ops[i]? s fun t => parRun P kp ops s0 r d t K

def parSyn (ops : Array Oper) (l : List Nat) : Bool :=
  decide l.Nodup && decide (l.filterMap fun i => (ops[i]?).bind (·.dst)).Nodup && l.all fun i => match ops[i]? with
    | some o => o.guard.isNone && (match o.op with | .call c => valCall c && (callOps c).all (fun y => match y with | .tmp t => !((l.filterMap fun i => (ops[i]?).bind (·.dst)).contains t) | _ => true) | _ => true)
    | none => false

theorem par_items {kp : List Nat} {s0 : St} {d : DT} {K : St → Prop} {l0 : List Nat} (hsyn : ∀ i, i ∈ l0 → ∃ o, ops[i]? = some o ∧ o.guard = none ∧ ∀ c, o.op = .call c → valCall c = true) : ∀ (l : List Nat) (s : St), (∀ i, i ∈ l → i ∈ l0) → parRun P kp ops s0 l d s K →
    ∃ its : List It, its.map It.i = l ∧ (∀ it, it ∈ its → ItOk P ops s0 it) ∧ SlotsI s.heap.length its ∧ contRun P kp ops (.dt d) (applyI s its) K
  | [], s, _, h => ⟨[], rfl, fun it hit => (by cases hit), trivial, h⟩
  | i :: r, s, hl, h => by
    obtain ⟨o, ho, hg, hc⟩ := hsyn i (hl i (by simp))
    simp only [parRun, P0, ho] at h
    have ih := fun s (h : parRun P kp ops s0 r d s K) => par_items hsyn r s (fun j hj => hl j (by simp [hj])) h
    unfold P1 at h
    split at h
    · rename_i c dst hop hdst
      unfold P2 at h
      split at h
      · rename_i p f args hR hT
        unfold P3 at h
        split at h
        · rename_i ds hds
          obtain ⟨hp, x0, hb, hpc, h⟩ := h
          obtain ⟨its, h1, h2, h3, h4⟩ := ih _ h
          refine ⟨⟨i, dst, x0, none⟩ :: its, by simp [h1], fun it hit => ?_, ⟨fun hh => (by cases hh), by simpa using h3⟩, by simpa [applyI] using h4⟩
          rcases List.mem_cons.1 hit with rfl | hit
          · exact ⟨o, ho, hg, hdst, hb, c, p, f, args, ds, hop, hc c hop, hR, hT, hp, hds, hpc⟩
          · exact h2 it hit
        · exact h.elim
      · exact h.elim
    · rename_i t dst hop hdst
      unfold PZ at h
      split at h
      · rename_i zs hz
        obtain ⟨its, h1, h2, h3, h4⟩ := ih _ h
        refine ⟨⟨i, dst, .ptr s.heap.length 0 0, some (.cells zs)⟩ :: its, by simp [h1], fun it hit => ?_, ⟨fun _ => rfl, by simpa using h3⟩, by simpa [applyI] using h4⟩
        rcases List.mem_cons.1 hit with rfl | hit
        · exact ⟨o, ho, hg, hdst, t, zs, hop, hz, rfl⟩
        · exact h2 it hit
      · exact h.elim
    · exact h.elim

def ParAt (P : Program) (kp : List Nat) (ops : Array Oper) (l : List Nat) (d : DT) (K : St → Prop) (s : St) : Prop := belTm s.heap.length s.tm = true ∧ belHeap s.heap.length s.heap = true ∧ parRun P kp ops s l d s K

theorem awpF_drawP {kp : List Nat} {n : Nat} {s : St} {Q : Exit → St → Prop} {id : Nat} (pre l : List Nat) (d : DT) (hm : P.follows .mixedOrders = true)
    (hc : (Region.noSelect ops && preOk ops pre (Array.replicate ops.size false) && parSyn ops l && consP ops l (setAll pre (Array.replicate ops.size false)) && parChk ops l l (setAll pre (Array.replicate ops.size false)) false && d.ok ops true (setAll l (setAll pre (Array.replicate ops.size false)))) = true) (hl : Nat.ble (pre.length + (l.length + d.depth)) ops.size = true)
    (h : ∀ K : St → Prop, (∀ t, Q .normal t → K t) → contRun P kp ops (.vc (pre.filterMap (ops[·]?))) s (ParAt P kp ops l d K)) : AWP P kp n (.region id ops true) s Q := by
  intro hok B a w E F h1 h2 h3
  subst h1
  simp only [Bool.and_eq_true] at hc
  obtain ⟨⟨⟨⟨⟨c1, c2⟩, c3⟩, c6⟩, c4⟩, c5⟩ := hc
  have hQ : ∀ c a w, ¬ (fun e a' w' => (∀ ch, e ≠ .panic ch) ∧ e ≠ .outgrown ∧ ∃ s' E' F', Q e s' ∧ Sim B s' a' w' E' F' ∧ a'.tmps.size = n) (.panic c) a w := fun c a w hh => hh.1 c rfl
  refine wp_region_any hm (wpAny_of_T _ _ _ _ (pre_sound (ops := ops) (n := n) (m := l.length + d.depth) hok c1 hQ pre _ s a _ E F _ h2 h3.drew (h _ fun t ht => ht) c2 ?_ _ (Nat.le_of_ble_eq_true hl)))
  rintro a1 w1 s1 E1 F1 ⟨hb1, hb2, hpar⟩ hs1 hn1 fuel hf
  simp only [parSyn, Bool.and_eq_true, decide_eq_true_eq, List.all_eq_true] at c3
  obtain ⟨⟨n1, n2⟩, c3⟩ := c3
  have hsyn : ∀ i, i ∈ l → ∃ o, ops[i]? = some o ∧ o.guard = none ∧ ∀ c, o.op = .call c → valCall c = true := fun i hi => by
    have := c3 i hi
    cases ho : ops[i]? with
    | none => rw [ho] at this; cases this
    | some o =>
      rw [ho] at this
      simp only [Bool.and_eq_true, Option.isNone_iff_eq_none] at this
      refine ⟨o, rfl, this.1, fun c hc => ?_⟩
      have := this.2
      rw [hc] at this
      simp only [Bool.and_eq_true] at this
      exact this.1
  obtain ⟨its, e1, e2, e3, e4⟩ := par_items hsyn l s1 (fun _ h => h) hpar
  have ed : its.map It.d = l.filterMap fun i => (ops[i]?).bind (·.dst) := by
    rw [← e1]
    clear e1 e3 e4 hpar
    induction its with
    | nil => rfl
    | cons x r ih =>
      obtain ⟨o, ho, _, hd, _⟩ := e2 x (by simp)
      rw [List.map_cons, List.map_cons, List.filterMap_cons]
      simp only [ho, Option.bind_some, hd]
      rw [ih fun y hy => e2 y (by simp [hy])]
  have hdep : DepOk ops its := by
    intro it hit o c ho hc t ht y hy
    have := c3 it.i (by rw [← e1]; exact List.mem_map_of_mem hit)
    rw [ho] at this
    simp only [hc, Bool.and_eq_true, List.all_eq_true] at this
    have := this.2.2 _ ht
    simp only [Bool.not_eq_true', List.contains_eq_mem, decide_eq_false_iff_not] at this
    intro e
    refine this ?_
    rw [← ed, ← e]
    exact List.mem_map_of_mem hy
  have hk : ∀ i, i ∈ B.keep → i < s1.heap.length := fun i hi => by
    obtain ⟨e, h1, _⟩ := hs1.rel.keep i hi
    rw [← hs1.rel.hr.len]
    exact (List.getElem?_eq_some_iff.1 h1).1
  have hfl : (its.filter fun it => (fun _ => true) it.i).length = l.length := by
    rw [List.filter_eq_self.2 fun _ _ => rfl, ← e1, List.length_map]
  have := par_sound (P := P) (B := B) (m := d.depth) hok (by rw [e1]; exact n1) (by rw [ed]; exact n2) e2 e3 hb1 hb2 hk hdep _ (by rw [e1]; exact c4) (Q := fun e a' w' => (∀ ch, e ≠ .panic ch) ∧ e ≠ .outgrown ∧ ∃ s' E' F', Q e s' ∧ Sim B s' a' w' E' F' ∧ a'.tmps.size = n)
    (fun a w E F hs hn fuel hf => draw_soundT (ops := ops) (n := n) hok c1 hQ d.depth d (Nat.le_refl _) _ _ a w E F (fun t => Q .normal t) hn hs e4 (by rw [e1]; exact c5) (fun a' w' s' E' F' hK hs hn => ⟨by simp, by simp, s', E', F', hK, hs, hn⟩) fuel hf)
    l.length (fun _ => true) hfl (by rw [show ((its.map It.i).filter fun i => !((fun _ => true) i)) = [] by simp, e1]; exact c6) a1 w1 _ F1 hn1 (stg_start hs1) fuel (by omega)
  rw [show ((its.map It.i).filter fun i => !((fun _ => true) i)) = [] by simp] at this
  exact this

section
variable {kp : List Nat} {s0 s : St} {d : DT} {K : St → Prop} {k : St → Prop}
def ParC (P : Program) (kp : List Nat) (ops : Array Oper) (s0 : St) (r : List Nat) (d : DT) (K : St → Prop) (t : St) : Prop := parRun P kp ops s0 r d t K
theorem parAt_eq {l : List Nat} : ParAt P kp ops l d K s = (belTm s.heap.length s.tm = true ∧ belHeap s.heap.length s.heap = true ∧ parRun P kp ops s l d s K) := rfl
theorem parRun_nil : parRun P kp ops s0 [] d s K = contRun P kp ops (.dt d) s K := rfl
theorem parRun_cons {i : Nat} {r : List Nat} : parRun P kp ops s0 (i :: r) d s K = P0 P s0 ops[i]? s (ParC P kp ops s0 r d K) := rfl
theorem parC_eq {r : List Nat} : ParC P kp ops s0 r d K s = parRun P kp ops s0 r d s K := rfl
theorem P0_some {o : Oper} : P0 P s0 (some o) s k = P1 P s0 o.op o.dst s k := rfl
theorem P1_call {c : Call} {dst : Nat} : P1 P s0 (.call c) (some dst) s k = P2 P (opR P s0 (.call c)) (callT s0 c) dst s k := rfl
theorem P1_alloc {t : TypeId} {dst : Nat} : P1 P s0 (.alloc t) (some dst) s k = PZ (kzero P t) dst s k := rfl
theorem P2_some {p : Prop} {f : FuncId} {args : List V} {dst : Nat} : P2 P none (some (p, f, args)) dst s k = P3 P (dVs args) p f dst s k := rfl
theorem P3_some {ds : List D} {p : Prop} {f : FuncId} {dst : Nat} : P3 P (some ds) p f dst s k = (p ∧ ParK P f ds dst s k) := rfl
theorem PZ_some {zs : List V} {dst : Nat} : PZ (some zs) dst s k = k ⟨tput s.tm dst (.ptr s.heap.length 0 0), s.heap ++ [.cells zs]⟩ := rfl
theorem ParK.pd {f : FuncId} {ds : List D} {dst : Nat} {x0 : V} (h : PD P f ds x0) (hb : V.bel 0 x0 = true) (hk : k ⟨tput s.tm dst x0, s.heap⟩) : ParK P f ds dst s k := ⟨x0, hb, h, hk⟩
end
attribute [push_cast] parAt_eq parRun_nil parRun_cons parC_eq P0_some P1_call P1_alloc P2_some P3_some PZ_some

end Go.Aw

namespace Go.Aw
set_option linter.unusedSimpArgs false
set_option linter.unusedVariables false
open Go.RowKit Go.Sort

theorem Rel.rewritten {B : Base} {s : St} {E : Env} {F : Nat → Prop} {w w' : World} (hr : Rel B s E F w) {i b : Nat} {e : En} {blk blk' : Blk} {cs cs' : Array Value} {t : TypeId}
    (he : E[i]? = some e) (hb : s.heap[i]? = some blk) (hl : blk.live = true) (heb : e.blk = some b) (hw : w.heap[b]? = some (.cells cs t (0, 0))) (hw' : w'.heap[b]? = some (.cells cs' t (0, 0))) (hsz : cs'.size = cs.size)
    (hos : w'.os = w.os) (htp : w'.tape = w.tape) (hlt : Later w w') (hsize : w.heap.size ≤ w'.heap.size) (hoth : ∀ c, c < w.heap.size → c ≠ b → w'.heap[c]? = w.heap[c]?)
    (hbr : BR E F w' e blk') :
    Evo E F w E F w' (fun _ => True) ∧ Rel B { s with heap := s.heap.set i blk' } E F w' := by
  obtain ⟨hbl, hbF⟩ := hr.hr.free i b e blk he heb hb hl
  have hlow : ∀ c, c ≠ b → ∀ o, w.heap[c]? = some o → w'.heap[c]? = w.heap[c]? := fun c hc o ho => by
    rcases Nat.lt_or_ge c w.heap.size with h | h
    · exact hoth c h hc
    · rw [Array.getElem?_eq_none h] at ho; cases ho
  have hsame : ∀ c, F c → w'.heap[c]? = w.heap[c]? := fun c hc => hoth c (hr.lt c hc) (fun e => hbF (e ▸ hc))
  have hszs : ∀ c n, Sz w c n → Sz w' c n := fun c n h => by
    by_cases hcb : c = b
    · subst hcb
      obtain ⟨c0, u, hc, hn⟩ := h
      rw [hw] at hc
      simp only [Option.some.injEq, Obj.cells.injEq] at hc
      obtain ⟨rfl, rfl, _⟩ := hc
      exact ⟨cs', _, hw', by omega⟩
    · obtain ⟨c0, u, hc, hn⟩ := h
      exact ⟨c0, u, (hlow c hcb _ hc).trans hc, hn⟩
  have evo : Evo E F w E F w' (fun _ => True) := ⟨fun _ h => h, hsame, fun _ _ _ h => h, hszs⟩
  have hget : ∀ (j : Nat) (bj : Blk), (s.heap.set i blk')[j]? = some bj → (j = i ∧ bj = blk') ∨ (j ≠ i ∧ s.heap[j]? = some bj) := fun j bj hj => by
    rw [List.getElem?_set] at hj
    split at hj
    · split at hj
      · simp at hj; exact .inl ⟨(by assumption : i = j).symm, hj.symm⟩
      · cases hj
    · exact .inr ⟨Ne.symm (by assumption), hj⟩
  refine ⟨evo, hos.trans hr.os, htp.trans hr.tape, hlt.trans hr.output, Nat.le_trans hr.size hsize, hr.F0, hr.only,
    fun c h1 h2 => (hoth c (Nat.lt_of_lt_of_le h1 hr.size) (fun q => (hr.src i b e blk he hb hl heb).elim (fun h => by omega) (fun h => h2 (q ▸ h)))).trans (hr.same c h1 h2),
    hr.lt.evo evo.up evo.same (fun c hc => Nat.lt_of_lt_of_le (hr.lt c hc) hsize), ⟨by simpa using hr.hr.len, ?_, ?_, ?_⟩, ?_, hr.keep, fun c n h => hszs c n (hr.sz c n h)⟩
  · intro j ej bj hEj hj
    rcases hget j bj hj with ⟨rfl, rfl⟩ | ⟨hji, hj⟩
    · rw [he] at hEj
      simp only [Option.some.injEq] at hEj
      subst hEj
      exact hbr
    · cases hlj : bj.live with
      | false => cases bj <;> simp_all [Blk.live]; trivial
      | true =>
        refine (hr.hr.blk j ej bj hEj hj).evo evo (fun _ _ => trivial) fun c hc => hoth c (hr.hr.free j c ej bj hEj hc hj hlj).1 fun e => ?_
        subst e
        exact hji (hr.hr.inj j i c ej _ bj blk hEj he hc heb hj hb hlj hl)
  · intro j c ej bj hEj hc hj hlj
    rcases hget j bj hj with ⟨rfl, rfl⟩ | ⟨hji, hj⟩
    · rw [he] at hEj
      simp only [Option.some.injEq] at hEj
      subst hEj
      have := hr.hr.free j c _ blk he hc hb hl
      exact ⟨Nat.lt_of_lt_of_le this.1 hsize, this.2⟩
    · have := hr.hr.free j c ej bj hEj hc hj hlj
      exact ⟨Nat.lt_of_lt_of_le this.1 hsize, this.2⟩
  · intro j l c ej el bj bl hEj hEl hcj hcl hj hl' hlj hll
    have hb' : ∀ (j : Nat) (bj : Blk), (s.heap.set i blk')[j]? = some bj → bj.live = true → ∃ b0, s.heap[j]? = some b0 ∧ b0.live = true := fun j bj hj hlj => by
      rcases hget j bj hj with ⟨rfl, rfl⟩ | ⟨hji, hj⟩
      · exact ⟨blk, hb, hl⟩
      · exact ⟨bj, hj, hlj⟩
    obtain ⟨b0, h0, hl0⟩ := hb' j bj hj hlj
    obtain ⟨b1, h1, hl1⟩ := hb' l bl hl' hll
    exact hr.hr.inj j l c ej el b0 b1 hEj hEl hcj hcl h0 h1 hl0 hl1
  · intro j c ej bj hEj hj hlj hc
    rcases hget j bj hj with ⟨rfl, rfl⟩ | ⟨hji, hj⟩
    · exact hr.src j c ej blk hEj hb hl hc
    · exact hr.src j c ej bj hEj hj hlj hc

theorem Rel.start {w : World} {F : Nat → Prop} {E : Env} {H : List Blk} {kp : List Nat} (h1 : HR E F w H) (h2 : FO F w) (h3 : ∀ i, i ∈ kp → i < H.length) : Rel ⟨w, F, own E H, E, kp, []⟩ ⟨[], H⟩ E F w := by
  refine ⟨rfl, rfl, .refl _, Nat.le_refl _, fun _ h => h, fun _ h => .inl h, fun _ _ _ => rfl, h2, h1, ?_, ?_, fun _ _ h => h⟩
  · exact fun id b e blk q1 q2 q3 q4 => .inr ⟨id, e, blk, q1, q2, q3, q4⟩
  · intro i hi
    have := h3 i hi
    rw [← h1.len] at this
    exact ⟨_, List.getElem?_eq_getElem this, List.getElem?_eq_getElem this⟩

end Go.Aw

namespace Go.Aw
set_option linter.unusedSimpArgs false
set_option linter.unusedVariables false
open Go.RowKit

variable {F : Fence} {n : Nat} {P : Program}

end Go.Aw
