/-
  Texts of the proof, one behind the other. The conditions stand with each of them.
-/
import Derived.ProofKit
import Derived.Carry
import Derived.Deep.Strs
import Derived.Test.YtlimahhonfckdaaDoorQkDp
namespace Go.Aw
set_option linter.unusedSimpArgs false
set_option linter.unusedVariables false
open Go.ChangeShapes Go.WideShapes Go.ChangeAt Go.RowKit

inductive Ty where
  | int (k : IntKind)
  | bool
  | str
  | sl (e : Ty)
  | st (fs : Ty)
  | unit
  | pair (a b : Ty)
  | arr (n : Nat) (e : Ty)

inductive Fits : Ty → List D → Prop
  | int (k : IntKind) (n : Int) (h : (Lit.int k n).wf = true) : Fits (.int k) [.int k n]
  | bool (b : Bool) : Fits .bool [.bool b]
  | str (s : ByteArray) (h : s.size ≤ reachBytes) : Fits .str [.str s]
  | sl (e : Ty) (rows : List (List D)) (hl : rows.length ≤ reachBytes) (h : ∀ row, row ∈ rows → Fits e row) : Fits (.sl e) [.sl rows]
  | st (fs : Ty) (xs : List D) (h : Fits fs xs) : Fits (.st fs) xs
  | unit : Fits .unit []
  | pair (a b : Ty) (xs ys : List D) (h : Fits a xs) (h' : Fits b ys) : Fits (.pair a b) (xs ++ ys)
  | arr0 (e : Ty) : Fits (.arr 0 e) []
  | arrS (n : Nat) (e : Ty) (xs ys : List D) (h : Fits e xs) (h' : Fits (.arr n e) ys) : Fits (.arr (n + 1) e) (xs ++ ys)

def Ty.is (P : Program) : Ty → TypeId ⊕ (List Field × Nat × Nat) → Bool
  | .int k, .inl t => match P.underlying t with
    | some (.int k') => k' == k
    | _ => false
  | .bool, .inl t => match P.underlying t with
    | some .bool => true
    | _ => false
  | .str, .inl t => match P.underlying t with
    | some .string => true
    | _ => false
  | .sl e, .inl t => match P.underlying t with
    | some (.slice e') => e.is P (.inl e') && decide (0 < P.cellsOf e') && decide (0 < P.bytesOf e')
    | _ => false
  | .st fs, .inl t => match P.underlying t with
    | some (.struct f) => fs.is P (.inr (f.toList, 0, P.cellsOf t))
    | _ => false
  | .arr n e, .inl t => match P.underlying t with
    | some (.array n' e') => n' == n && e.is P (.inl e') && P.cellsOf t == n * P.cellsOf e'
    | _ => false
  | .unit, .inr ([], off, tot) => off == tot
  | .pair a b, .inr (f :: r, off, tot) => f.offset == off && a.is P (.inl f.type) && b.is P (.inr (r, off + P.cellsOf f.type, tot))
  | _, _ => false

def CRL (W : World) (xs : List D) (cs : List Value) : Prop := ∀ (j : Nat) (x : D) (v : Value), xs[j]? = some x → cs[j]? = some v → RD (fun b => b < W.heap.size) W x v

theorem CRL.app {W : World} {xs ys : List D} {cs : List Value} {k : Nat} (h1 : CRL W xs (cs.take k)) (l1 : xs.length = (cs.take k).length) (h2 : CRL W ys (cs.drop k)) (l2 : ys.length = (cs.drop k).length) :
    CRL W (xs ++ ys) cs ∧ (xs ++ ys).length = cs.length := by
  have hs : cs = cs.take k ++ cs.drop k := (List.take_append_drop k cs).symm
  constructor
  · intro j x v hx hv
    rw [hs] at hv
    rw [List.getElem?_append] at hx hv
    rw [l1] at hx
    split at hx
    · rename_i hj
      rw [if_pos hj] at hv
      exact h1 j x v hx hv
    · rename_i hj
      rw [if_neg hj] at hv
      exact h2 _ x v hx hv
  · rw [List.length_append, l1, l2, ← List.length_append, ← hs]

theorem mapM_get {α β : Type} {f : α → Option β} : ∀ {l : List α} {m : List β}, l.mapM f = some m → m.length = l.length ∧ ∀ (i : Nat) (x : α), l[i]? = some x → ∃ y, f x = some y ∧ m[i]? = some y
  | [], m, h => by simp at h; subst h; simp
  | a :: l, m, h => by
    rw [List.mapM_cons] at h
    cases ha : f a with
    | none => simp [ha] at h
    | some y =>
      cases hl : l.mapM f with
      | none => simp [ha, hl] at h
      | some ys =>
        simp [ha, hl] at h
        subst h
        obtain ⟨h1, h2⟩ := mapM_get hl
        refine ⟨by simp [h1], fun i x hx => ?_⟩
        cases i with
        | zero => simp at hx; subst hx; exact ⟨y, ha, rfl⟩
        | succ i => simpa using h2 i x (by simpa using hx)

theorem trod_arr {e : Ty} {W : World} {k : Nat} : ∀ (n : Nat) (cs : List Value), cs.length = n * k →
    (∀ i, i < n → ∃ xs, Fits e xs ∧ xs.length = ((cs.drop (i * k)).take k).length ∧ CRL W xs ((cs.drop (i * k)).take k)) → ∃ xs, Fits (.arr n e) xs ∧ xs.length = cs.length ∧ CRL W xs cs
  | 0, cs, hl, h => by
    have : cs = [] := List.eq_nil_of_length_eq_zero (by omega)
    subst this
    exact ⟨[], .arr0 e, rfl, fun j x v hx => by simp at hx⟩
  | n + 1, cs, hl, h => by
    obtain ⟨xs, h1, h2, h3⟩ := h 0 (by omega)
    simp only [Nat.zero_mul, List.drop_zero] at h2 h3
    have hl' : cs.length = n * k + k := by rw [hl, Nat.add_mul, Nat.one_mul]
    obtain ⟨ys, q1, q2, q3⟩ := trod_arr (e := e) (W := W) (k := k) n (cs.drop k) (by rw [List.length_drop]; omega) (fun i hi => by
      have := h (i + 1) (by omega)
      rw [List.drop_drop]
      rwa [show k + i * k = (i + 1) * k by rw [Nat.add_mul]; omega])
    obtain ⟨c1, c2⟩ := CRL.app h3 h2 q3 q2
    exact ⟨xs ++ ys, .arrS n e xs ys h1 q1, c2, c1⟩

theorem add_spot0 (b off n : Nat) : (⟨b, off, none⟩ : Addr).add n = ⟨b, off + n, none⟩ := by
  simp [Addr.add]

section
variable {H : Type} {enc : TypeId × Value → H} {P : Program} {W : World} {sp : Nat → Bool} {hd : Bool}

def fitsB (l : List Nat) : Prop := l.all (· ≤ reachBytes) = true
theorem fitsB_app {l m : List Nat} (h : fitsB (l ++ m)) : fitsB l ∧ fitsB m := by
  unfold fitsB at h ⊢
  rw [List.all_append, Bool.and_eq_true] at h
  exact h
theorem weights_mem {e : TypeId} : ∀ {ds : List (DataW H)} {d : DataW H}, fitsB (DataW.weightsAll P e ds) → d ∈ ds → fitsB (d.weights P e)
  | [], d, _, h => by cases h
  | c :: ds, d, hw, h => by
    rw [DataW.weightsAll] at hw
    rcases List.mem_cons.1 h with rfl | h
    · exact (fitsB_app hw).1
    · exact weights_mem (fitsB_app hw).2 h
theorem weights_app : ∀ {ts us : List TypeId} {ds gs : List (DataW H)}, ds.length = ts.length → fitsB (DataW.weightsEach P (ts ++ us) (ds ++ gs)) → fitsB (DataW.weightsEach P ts ds)
  | [], us, ds, gs, h, hw => by
    obtain rfl : ds = [] := List.eq_nil_of_length_eq_zero h
    rfl
  | t :: ts, us, [], gs, h, hw => by simp at h
  | t :: ts, us, d :: ds, gs, h, hw => by
    rw [List.cons_append, List.cons_append, DataW.weightsEach] at hw
    rw [DataW.weightsEach]
    have h1 := (fitsB_app hw).1
    have h2 := weights_app (by simpa using h) (fitsB_app hw).2
    unfold fitsB at h1 h2 ⊢
    rw [List.all_append, h1, h2]
    rfl

theorem rd_is : ∀ (ty : Ty) (fuel : Nat),
    (∀ (t : TypeId) (cs : List Value) (x : DataW H × List MemPlace), ty.is P (.inl t) = true → fitsB (x.1.weights P t) → DataW.trod enc P W 0 sp hd fuel t cs = some x → ∃ xs, Fits ty xs ∧ xs.length = cs.length ∧ CRL W xs cs) ∧
    (∀ (fs : List Field) (off tot : Nat) (cs : List Value) (l : List (DataW H × List MemPlace)), ty.is P (.inr (fs, off, tot)) = true → fitsB (DataW.weightsEach P (fs.map (·.type)) (l.map (·.1))) → cs.length = tot →
      fs.mapM (fun f => DataW.trod enc P W 0 sp hd fuel f.type ((cs.drop f.offset).take (P.cellsOf f.type))) = some l → ∃ xs, Fits ty xs ∧ xs.length = (cs.drop off).length ∧ CRL W xs (cs.drop off)) := by
  intro ty
  induction ty with
  | int k =>
    intro fuel
    refine ⟨fun t cs x hty hw h => ?_, fun fs off tot cs l hty => by simp [Ty.is] at hty⟩
    simp only [Ty.is] at hty
    split at hty
    · rename_i k' hu
      have hk : k' = k := by simpa using hty
      subst hk
      obtain ⟨x0, e0, _, e2⟩ := DataW.trod_int hu h
      subst e0
      refine ⟨[.int k' x0], .int _ _ ?_, rfl, fun j y v hy hv => ?_⟩
      · cases fuel with
        | zero => simp [DataW.trod] at h
        | succ n =>
          simp only [DataW.trod, hu] at h
          split at h
          · rename_i hh; exact hh.2
          · cases h
      · match j with
        | 0 => simp at hy hv; subst hy hv; exact .int _ _
        | j + 1 => simp at hy
    · cases hty
  | bool =>
    intro fuel
    refine ⟨fun t cs x hty hw h => ?_, fun fs off tot cs l hty => by simp [Ty.is] at hty⟩
    simp only [Ty.is] at hty
    split at hty
    · rename_i hu
      cases fuel with
      | zero => simp [DataW.trod] at h
      | succ n =>
        unfold DataW.trod at h
        rw [hu] at h
        split at h <;> first | (rename_i h1 _; cases h1; done) | skip
        all_goals try (simp at *; done)
        rename_i b h1
        refine ⟨[.bool b], .bool b, rfl, fun j y v hy hv => ?_⟩
        match j with
        | 0 => simp at hy hv; subst hy hv; exact .bool _
        | j + 1 => simp at hy
    · cases hty
  | str =>
    intro fuel
    refine ⟨fun t cs x hty hw h => ?_, fun fs off tot cs l hty => by simp [Ty.is] at hty⟩
    simp only [Ty.is] at hty
    split at hty
    · rename_i hu
      cases fuel with
      | zero => simp [DataW.trod] at h
      | succ n =>
        unfold DataW.trod at h
        rw [hu] at h
        split at h <;> first | (rename_i h1 _; cases h1; done) | skip
        all_goals try (simp at *; done)
        rename_i s h1
        split at h
        · rename_i hsz
          have hsr : s.size ≤ reachBytes := by
            have e := Option.some.inj h
            rw [← e] at hw
            unfold fitsB at hw
            simpa [DataW.weights] using hw
          refine ⟨[.str s], .str s hsr, rfl, fun j y v hy hv => ?_⟩
          match j with
          | 0 => simp at hy hv; subst hy hv; exact .str _
          | j + 1 => simp at hy
        · cases h
    · cases hty
  | sl e ih =>
    intro fuel
    refine ⟨fun t cs x hty hw h => ?_, fun fs off tot cs l hty => by simp [Ty.is] at hty⟩
    simp only [Ty.is] at hty
    split at hty
    · rename_i e' hu
      simp only [Bool.and_eq_true, decide_eq_true_eq] at hty
      obtain ⟨⟨he, hk⟩, hby⟩ := hty
      rcases DataW.trod_slice hu h with ⟨rfl, _⟩ | ⟨a, len, cap, elems, rest, n, rfl, rfl, rfl, _, hl, hcap, hlen, hel, _⟩
      · refine ⟨[.sl []], .sl e [] (by simp) (by simp), rfl, fun j y v hy hv => ?_⟩
        match j with
        | 0 => simp at hy hv; subst hy hv; exact .sl0 _ _
        | j + 1 => simp at hy
      · have hw2 : (elems.length + rest.length) * P.bytesOf e' ≤ reachBytes ∧ fitsB (DataW.weightsAll P e' (elems.map (·.1))) := by
          unfold fitsB at hw ⊢
          simp only [DataW.weights, hu, List.all_cons, Bool.and_eq_true, List.all_append, decide_eq_true_eq, List.length_map] at hw
          exact ⟨hw.1, hw.2.1⟩
        have hlr : len ≤ reachBytes := by
          have h1 := hw2.1
          have h2 : (elems.length + rest.length) * 1 ≤ (elems.length + rest.length) * P.bytesOf e' := Nat.mul_le_mul_left _ hby
          omega
        have fin : ∀ (rows : List (List D)), Fits (.sl e) [.sl rows] → RD (fun b => b < W.heap.size) W (.sl rows) (.slice (some a) len cap) → ∃ xs, Fits (.sl e) xs ∧ xs.length = [Value.slice (some a) len cap].length ∧ CRL W xs [Value.slice (some a) len cap] := by
          intro rows h1 h2
          refine ⟨_, h1, rfl, fun j y v hy hv => ?_⟩
          match j with
          | 0 => simp at hy hv; subst hy hv; exact h2
          | j + 1 => simp at hy
        rcases Nat.eq_zero_or_pos len with h0 | hpos
        · subst h0
          exact fin [] (.sl e [] (by simp) (by simp)) (.sl0 _ _)
        have hkk : ∃ k, P.cellsOf e' = k ∧ 0 < k := ⟨_, rfl, hk⟩
        obtain ⟨k, hke, hk0⟩ := hkk
        rw [hke] at hel
        have row0 : ∀ i, i < len → ∃ cs, W.cells? 0 (a.add (i * k)) k = some cs ∧ ∃ y, elems[i]? = some y ∧ DataW.trod enc P W 0 sp hd n e' cs = some y := by
          intro i hi
          have h2 := hel i hi
          rw [List.getElem?_eq_getElem (by omega), Option.bind_eq_some_iff] at h2
          obtain ⟨cs, hcs, ht⟩ := h2
          exact ⟨cs, hcs, _, List.getElem?_eq_getElem (by omega), ht⟩
        have hspot : a.spot = none := by
          obtain ⟨cs, hcs, _⟩ := row0 0 hpos
          simp only [World.cells?, Nat.zero_le, if_true, Nat.zero_mul] at hcs
          obtain ⟨_, hg⟩ := mapM_get hcs
          obtain ⟨y, hy, _⟩ := hg 0 0 (by rw [List.getElem?_range hk0])
          simp only [Addr.add, if_true] at hy
          unfold World.cell? at hy
          split at hy
          · split at hy
            · cases hy
            · rename_i hs; simpa using hs
          · cases hy
        obtain ⟨b, off, spo⟩ := a
        simp only at hspot
        subst hspot
        have row1 : ∀ i, i < len → ∃ xs, Fits e xs ∧ xs.length = k ∧ ∀ j, j < k → ∃ v, W.cell? ⟨b, off + (i * k + j), none⟩ = some v ∧ ∀ x, xs[j]? = some x → RD (fun b => b < W.heap.size) W x v := by
          intro i hi
          obtain ⟨cs, hcs, y, hye, hy⟩ := row0 i hi
          simp only [World.cells?, Nat.zero_le, if_true, add_spot0] at hcs
          obtain ⟨hl1, hg⟩ := mapM_get hcs
          rw [List.length_range] at hl1
          obtain ⟨xs, f1, f2, f3⟩ := (ih n).1 e' cs y he (weights_mem hw2.2 (List.mem_map.2 ⟨y, List.mem_of_getElem? hye, rfl⟩)) hy
          refine ⟨xs, f1, by omega, fun j hj => ?_⟩
          obtain ⟨v, hv, hm⟩ := hg j j (by rw [List.getElem?_range hj])
          refine ⟨v, ?_, fun x hx => f3 j x v hx hm⟩
          rw [← hv, Nat.add_assoc]
        have ex : ∃ g : Nat → List D, ∀ i, i < len → Fits e (g i) ∧ (g i).length = k ∧ ∀ j, j < k → ∃ v, W.cell? ⟨b, off + (i * k + j), none⟩ = some v ∧ ∀ x, (g i)[j]? = some x → RD (fun b => b < W.heap.size) W x v :=
          ⟨fun i => if h : i < len then (row1 i h).choose else [], fun i hi => by simp only [hi, dif_pos]; exact (row1 i hi).choose_spec⟩
        obtain ⟨g, hg⟩ := ex
        have hb : b < W.heap.size := by
          obtain ⟨_, _, h1⟩ := hg 0 hpos
          obtain ⟨v, hv, _⟩ := h1 0 hk0
          rcases Nat.lt_or_ge b W.heap.size with h | h
          · exact h
          · simp [World.cell?, Array.getElem?_eq_none h] at hv
        have hrow : ∀ (i : Nat) (row : List D), ((List.range len).map g)[i]? = some row → i < len ∧ row = g i := fun i row hi => by
          simp only [List.getElem?_map, Option.map_eq_some_iff] at hi
          obtain ⟨q, hq, rfl⟩ := hi
          rw [List.getElem?_eq_some_iff] at hq
          obtain ⟨h1, h2⟩ := hq
          simp at h1 h2
          subst h2
          exact ⟨h1, rfl⟩
        have hl' : ((List.range len).map g).length = len := by simp
        have hrd := RD.sl (F := fun b => b < W.heap.size) (w := W) b off cap k ((List.range len).map g) (fun i j => (W.cell? ⟨b, off + (i * k + j), none⟩).getD undef) (by rw [hl']; exact hl) hb
          (fun i row hi => by obtain ⟨h1, rfl⟩ := hrow i row hi; exact (hg i h1).2.1)
          (fun i j hi hj => by
            rw [hl'] at hi
            obtain ⟨v, hv, _⟩ := (hg i hi).2.2 j hj
            rw [hv]; rfl)
          (fun i row j x hi hj => by
            obtain ⟨h1, rfl⟩ := hrow i row hi
            obtain ⟨_, h3, h4⟩ := hg i h1
            have hjk : j < k := by have := (List.getElem?_eq_some_iff.1 hj).1; omega
            obtain ⟨v, hv, h5⟩ := h4 j hjk
            rw [hv]
            exact h5 x hj)
        rw [hl'] at hrd
        refine fin _ (.sl e _ (by rw [hl']; omega) fun row hr => ?_) hrd
        obtain ⟨i, hi, rfl⟩ := List.mem_map.1 hr
        exact (hg i (List.mem_range.1 hi)).1
    · cases hty
  | st fs ih =>
    intro fuel
    refine ⟨fun t cs x hty hw h => ?_, fun fs off tot cs l hty => by simp [Ty.is] at hty⟩
    simp only [Ty.is] at hty
    split at hty
    · rename_i f hu
      cases fuel with
      | zero => simp [DataW.trod] at h
      | succ n =>
        simp only [DataW.trod, hu] at h
        split at h
        · rename_i hl
          simp only [Option.map_eq_some_iff] at h
          obtain ⟨l, hm, hx⟩ := h
          obtain ⟨xs, h1, h2, h3⟩ := (ih n).2 f.toList 0 _ cs l hty (by rw [← hx] at hw; simpa only [DataW.weights, hu] using hw) hl hm
          rw [List.drop_zero] at h2 h3
          exact ⟨xs, .st fs xs h1, h2, h3⟩
        · cases h
    · cases hty
  | unit =>
    intro fuel
    refine ⟨fun t cs x hty hw h => by simp [Ty.is] at hty, fun fs off tot cs l hty hw hl h => ?_⟩
    cases fs with
    | cons f r => simp [Ty.is] at hty
    | nil =>
      simp only [Ty.is, beq_iff_eq] at hty
      refine ⟨[], .unit, ?_, fun j x v hx => by simp at hx⟩
      rw [List.length_drop]; simp; omega
  | pair a b iha ihb =>
    intro fuel
    refine ⟨fun t cs x hty hw h => by simp [Ty.is] at hty, fun fs off tot cs l hty hw hl h => ?_⟩
    cases fs with
    | nil => simp [Ty.is] at hty
    | cons f r =>
      simp only [Ty.is, Bool.and_eq_true, beq_iff_eq] at hty
      obtain ⟨⟨ho, ha⟩, hb⟩ := hty
      rw [List.mapM_cons] at h
      cases h1 : DataW.trod enc P W 0 sp hd fuel f.type ((cs.drop f.offset).take (P.cellsOf f.type)) with
      | none => simp [h1] at h
      | some y =>
        cases h2 : r.mapM (fun f => DataW.trod enc P W 0 sp hd fuel f.type ((cs.drop f.offset).take (P.cellsOf f.type))) with
        | none => simp [h1, h2] at h
        | some ys =>
          rw [h1, h2] at h
          obtain rfl : y :: ys = l := by simpa using h
          rw [List.map_cons, List.map_cons, DataW.weightsEach] at hw
          obtain ⟨xs, q1, q2, q3⟩ := (iha fuel).1 _ _ y ha (fitsB_app hw).1 h1
          obtain ⟨zs, r1, r2, r3⟩ := (ihb fuel).2 r _ tot cs ys hb (fitsB_app hw).2 hl h2
          rw [ho] at q2 q3
          rw [← List.drop_drop] at r2 r3
          obtain ⟨c1, c2⟩ := CRL.app q3 q2 r3 r2
          exact ⟨xs ++ zs, .pair a b xs zs q1 r1, c2, c1⟩
  | arr n e ih =>
    intro fuel
    refine ⟨fun t cs x hty hw h => ?_, fun fs off tot cs l hty => by simp [Ty.is] at hty⟩
    simp only [Ty.is] at hty
    split at hty
    · rename_i n' e' hu
      simp only [Bool.and_eq_true, beq_iff_eq] at hty
      obtain ⟨⟨rfl, he⟩, hcl⟩ := hty
      cases fuel with
      | zero => simp [DataW.trod] at h
      | succ m =>
        simp only [DataW.trod, hu] at h
        split at h
        · rename_i hl
          simp only [Option.map_eq_some_iff] at h
          obtain ⟨l, hm, hx⟩ := h
          rw [← hx] at hw
          have hw2 : fitsB (DataW.weightsAll P e' (l.map (·.1))) := by simpa only [DataW.weights, hu] using hw
          obtain ⟨_, hg⟩ := mapM_get hm
          refine trod_arr (k := P.cellsOf e') n' cs (by omega) fun i hi => ?_
          obtain ⟨y, hy, hyl⟩ := hg i i (by rw [List.getElem?_range hi])
          exact (ih m).1 e' _ y he (weights_mem hw2 (List.mem_map.2 ⟨y, List.mem_of_getElem? hyl, rfl⟩)) hy
        · cases h
    · cases hty

def FitA : Ty → D → Prop
  | .st fs, x => ∃ xs, x = .agg xs ∧ Fits (.st fs) xs
  | .arr n e, x => ∃ xs, x = .agg xs ∧ Fits (.arr n e) xs
  | ty, x => Fits ty [x]

theorem one_of {ty : Ty} {xs : List D} {v : Value} (h : Fits ty xs) (hl : xs.length = [v].length) (hc : CRL W xs [v]) : ∃ x, Fits ty [x] ∧ VR [] (fun b => b < W.heap.size) W (ofD x) v := by
  match xs, hl with
  | [x], _ => exact ⟨x, h, ofD_sound (hc 0 x v rfl rfl)⟩

theorem arg_is {ty : Ty} {t : TypeId} {v : Value} {d : DataW H} {ps : List MemPlace} {base : Nat} (hty : ty.is P (.inl t) = true) (hval : Value.okWide P W .any base t v) (hw : fitsB (d.weights P t)) (h : DataW.Trod enc P W 0 sp hd t v d ps) :
    ∃ x, FitA ty x ∧ VR [] (fun b => b < W.heap.size) W (ofD x) v := by
  obtain ⟨fuel, hf⟩ := h
  obtain ⟨xs, h1, h2, h3⟩ := (rd_is ty fuel).1 t _ _ hty hw hf
  have agg : ∀ cs : Array Value, v = .agg cs → VR [] (fun b => b < W.heap.size) W (ofD (.agg xs)) v := by
    rintro cs rfl
    refine ofD_sound (.agg xs cs (by simpa [Value.cells] using h2.symm) fun j x v hx hv => h3 j x v hx (by simpa [Value.cells] using hv))
  cases ty with
  | st fs =>
    simp only [Ty.is] at hty
    split at hty
    · rename_i f hu
      simp only [Value.okWide, hu] at hval
      obtain ⟨cs, hv, _⟩ := hval
      exact ⟨.agg xs, ⟨xs, rfl, h1⟩, agg cs hv⟩
    · cases hty
  | arr n e =>
    simp only [Ty.is] at hty
    split at hty
    · rename_i n' e' hu
      simp only [Value.okWide, hu] at hval
      obtain ⟨cs, hv, _⟩ := hval
      exact ⟨.agg xs, ⟨xs, rfl, h1⟩, agg cs hv⟩
    · cases hty
  | int k =>
    simp only [Ty.is] at hty
    split at hty
    · rename_i k' hu
      cases v <;> simp only [Value.okWide, hu, Cell.okWide, Cell.ok] at hval
      exact one_of h1 (by simpa [Value.cells] using h2) (by simpa [Value.cells] using h3)
    · cases hty
  | bool =>
    simp only [Ty.is] at hty
    split at hty
    · rename_i hu
      cases v <;> simp only [Value.okWide, hu, Cell.okWide, Cell.ok] at hval
      exact one_of h1 (by simpa [Value.cells] using h2) (by simpa [Value.cells] using h3)
    · cases hty
  | str =>
    simp only [Ty.is] at hty
    split at hty
    · rename_i hu
      cases v <;> simp only [Value.okWide, hu, Cell.okWide, Cell.ok] at hval
      exact one_of h1 (by simpa [Value.cells] using h2) (by simpa [Value.cells] using h3)
    · cases hty
  | sl e =>
    simp only [Ty.is] at hty
    split at hty
    · rename_i e' hu
      obtain ⟨a, len, cap, rfl⟩ := okWide_slice hu hval
      exact one_of h1 (by simpa [Value.cells] using h2) (by simpa [Value.cells] using h3)
    · cases hty
  | unit => simp [Ty.is] at hty
  | pair a b => simp [Ty.is] at hty

def FitAs : List Ty → List D → Prop
  | [], [] => True
  | ty :: tys, x :: xs => FitA ty x ∧ FitAs tys xs
  | _, _ => False
def isAll (P : Program) : List Ty → List TypeId → Bool
  | [], [] => true
  | ty :: tys, t :: ts => ty.is P (.inl t) && isAll P tys ts
  | _, _ => false

theorem args_is {base : Nat} : ∀ {tys : List Ty} {ts : List TypeId} {vs : List Value} {ds : List (DataW H)} {ps : List MemPlace}, isAll P tys ts = true → (∀ (j : Nat) (t : TypeId) (v : Value), ts[j]? = some t → vs[j]? = some v → Value.okWide P W .any base t v) → fitsB (DataW.weightsEach P ts ds) →
    DataW.TrodAll enc P W 0 sp hd ts vs ds ps → ∃ xs, FitAs tys xs ∧ xs.length = vs.length ∧ ∀ (j : Nat) (x : D) (v : Value), xs[j]? = some x → vs[j]? = some v → VR [] (fun b => b < W.heap.size) W (ofD x) v
  | [], [], vs, ds, ps, _, _, _, h => by
    obtain ⟨rfl, _, _⟩ := trodAll_nil h
    exact ⟨[], trivial, rfl, fun j x v hx => by simp at hx⟩
  | [], t :: ts, _, _, _, hty, _, _, _ => by simp [isAll] at hty
  | ty :: tys, [], _, _, _, hty, _, _, _ => by simp [isAll] at hty
  | ty :: tys, t :: ts, vs, ds, ps, hty, hval, hw, h => by
    simp only [isAll, Bool.and_eq_true] at hty
    cases vs with
    | nil => cases ds <;> exact h.elim
    | cons v vs =>
      cases ds with
      | nil => exact h.elim
      | cons d ds =>
        obtain ⟨p, q, h1, h2, _⟩ := h
        rw [DataW.weightsEach] at hw
        obtain ⟨x, f1, f2⟩ := arg_is hty.1 (hval 0 t v rfl rfl) (fitsB_app hw).1 h1
        obtain ⟨xs, g1, g2, g3⟩ := args_is hty.2 (fun j t v ht hv => hval (j + 1) t v (by simpa using ht) (by simpa using hv)) (fitsB_app hw).2 h2
        refine ⟨x :: xs, ⟨f1, g1⟩, by simp [g2], fun j y u hy hu => ?_⟩
        cases j with
        | zero => simp at hy hu; subst hy hu; exact f2
        | succ j => exact g3 j y u (by simpa using hy) (by simpa using hu)

theorem trodAll_len {base : Nat} : ∀ {ts : List TypeId} {vs : List Value} {ds : List (DataW H)} {ps : List MemPlace}, DataW.TrodAll enc P W base sp hd ts vs ds ps → ds.length = ts.length
  | [], vs, ds, ps, h => by obtain ⟨_, rfl, _⟩ := trodAll_nil h; rfl
  | t :: ts, vs, ds, ps, h => by
    cases vs with
    | nil => cases ds <;> exact h.elim
    | cons v vs =>
      cases ds with
      | nil => exact h.elim
      | cons d ds =>
        obtain ⟨p, q, _, h2, _⟩ := h
        simp [trodAll_len h2]

def readAll (P : Program) (ts : List TypeId) : Bool := ts.all fun t => P.readableRec t && decide (t < P.types.size)
theorem trodAll_below {W' : World} (hl : laidOutB P = true) (hb : Below W.heap.size W W') : ∀ {ts : List TypeId} {vs : List Value} {ds : List (DataW H)} {ps : List MemPlace}, readAll P ts = true →
    DataW.TrodAll enc P W 0 (fun _ => true) true ts vs ds ps → (∀ x ∈ ps, x.block < W.heap.size) → DataW.TrodAll enc P W' 0 (fun b => decide (b < W.heap.size)) true ts vs ds ps
  | [], vs, ds, ps, _, h, _ => by
    obtain ⟨rfl, rfl, rfl⟩ := trodAll_nil h
    rfl
  | t :: ts, vs, ds, ps, hr, h, hlt => by
    simp only [readAll, List.all_cons, Bool.and_eq_true, decide_eq_true_eq] at hr
    cases vs with
    | nil => cases ds <;> exact h.elim
    | cons v vs =>
      cases ds with
      | nil => exact h.elim
      | cons d ds =>
        obtain ⟨p, q, h1, h2, rfl⟩ := h
        exact ⟨p, q, Below.trod hl hr.1.1 hr.1.2 h1 hb (fun x hx => hlt x (by simp [hx])), trodAll_below hl hb hr.2 h2 (fun x hx => hlt x (by simp [hx])), rfl⟩

theorem pd_callsG {f : FuncId} {args : List D} {x0 : V} (h : PD P f args x0)
    (hG : FO (fun b => b < W.heap.size) W) {cargs : Array Value} (hc : CR [] (fun b => b < W.heap.size) W (args.map ofD) cargs) :
    Calls P f cargs W fun e W' => ∃ v E' F', e = .returned v ∧ Below W.heap.size W W' ∧ VR E' F' W' x0 v := by
  refine (h.2 W cargs [] (fun b => b < W.heap.size) ⟨rfl, by simp, by simp, by simp⟩ hG (by simp) hc).mono ?_
  rintro e W' ⟨v, x, H', E', F', rfl, ⟨rfl, rfl⟩, hr, hv⟩
  refine ⟨v, E', F', rfl, ⟨hr.os, hr.tape, hr.output.output, hr.size, fun k hk => hr.same k hk ?_⟩, hv⟩
  rintro ⟨id, en, blk, h1, _⟩
  simp at h1

theorem row_true (hl : laidOutB P = true) {f : FuncId} {fn : Func} {s : ChangeSpec} {tys : List Ty} {bt : TypeId} {apart fresh : Bool} (hty : isAll P tys fn.params.toList = true) (hrd : readAll P fn.params.toList = true) (hres : fn.resultTypes = #[bt]) (hbt : P.underlying bt = some .bool)
    (hvars : s.vars = []) (hs : ∀ ds : List (DataW H), ds.length = tys.length → s.fn H ds = { results := [.lit (.bool true)], args := ds }) (h : ∀ xs, FitAs tys xs → PD P f xs (.d (.bool true)))
    (hG : FO (fun b => b < W.heap.size) W)
    {args : Array Value} {ds gs : List (DataW H)} {before : List MemPlace} {base : Nat} (hval : ∀ (j : Nat) (t : TypeId) (v : Value), fn.params[j]? = some t → args[j]? = some v → Value.okWide P W .any base t v)
    (hwt : (DataW.weightsEach P (fn.params.toList ++ s.plain.varTypes P) (ds ++ gs)).all (· ≤ reachBytes) = true)
    (hW : DataW.Whole enc P fn.params.toList s.vars apart W args.toList ds gs before) :
    Calls P f args W fun e W' => ∃ v, e = .returned v ∧ s.post enc P fn apart fresh false false W args v W' := by
  have hW' := hW
  obtain ⟨p, q, hA, hV, hpq, hfz, hnd⟩ := hW
  rw [hvars] at hV
  obtain ⟨rfl, rfl⟩ := trodVars_none hV
  obtain ⟨xs, f1, f2, f3⟩ := args_is hty (fun j t v ht hv => hval j t v (by simpa using ht) (by simpa using hv)) (weights_app (trodAll_len hA) hwt) hA
  refine (pd_callsG (W := W) (h xs f1) hG ⟨by simp [f2], fun j z v hz hv => ?_⟩).mono fun e W' ⟨v, E', F', he, hb, hv⟩ => ?_
  · simp only [List.getElem?_map, Option.map_eq_some_iff] at hz
    obtain ⟨x, hx, rfl⟩ := hz
    exact f3 j x v hx (by simpa using hv)
  subst he
  have hvv := bool_of hv
  subst hvv
  have hlt : ∀ x ∈ p, x.block < W.heap.size := fun x hx => by
    have := hW'.lt x (by rw [hpq]; simp [hx])
    simpa using this
  have hdl : ds.length = tys.length := by
    have h1 := trodAll_len hA
    have h2 : ∀ {tys : List Ty} {ts : List TypeId}, isAll P tys ts = true → tys.length = ts.length := by
      intro tys
      induction tys with
      | nil => intro ts h; cases ts with
        | nil => rfl
        | cons a b => simp [isAll] at h
      | cons a b ih => intro ts h; cases ts with
        | nil => simp [isAll] at h
        | cons c d => simp only [isAll, Bool.and_eq_true] at h; simp [ih h.2]
    rw [h1, h2 hty]
  have hfn := hs ds hdl
  refine ⟨_, rfl, ds, [], before, [], p, [], hW', ?_, ?_, ?_, hb.frame _, fun h => by cases h⟩
  · rw [List.append_nil, hfn, hres]
    exact trodAll_mk1 (shut_bool hbt true)
  · rw [List.append_nil, hfn]
    exact trodAll_below hl hb hrd hA hlt
  · rw [hvars, List.append_nil, hfn]
    rfl

end
end Go.Aw

namespace Go.Aw
set_option linter.unusedSimpArgs false
set_option linter.unusedVariables false
open Go.RowKit

theorem fitAs_cons {t : Ty} {ts : List Ty} {xs : List D} (h : FitAs (t :: ts) xs) : ∃ x r, xs = x :: r ∧ FitA t x ∧ FitAs ts r := by
  cases xs with
  | nil => exact h.elim
  | cons x r => exact ⟨x, r, rfl, h.1, h.2⟩
theorem fitAs_nil {xs : List D} (h : FitAs [] xs) : xs = [] := by
  cases xs with
  | nil => rfl
  | cons x r => exact h.elim

theorem fits_int {k : IntKind} {xs : List D} (h : Fits (.int k) xs) : ∃ n, xs = [.int k n] ∧ (Lit.int k n).wf = true := by
  cases h with | int k n h => exact ⟨n, rfl, h⟩
theorem fits_bool {xs : List D} (h : Fits .bool xs) : ∃ b, xs = [.bool b] := by
  cases h with | bool b => exact ⟨b, rfl⟩
theorem fits_str {xs : List D} (h : Fits .str xs) : ∃ s, xs = [.str s] ∧ s.size ≤ reachBytes := by
  cases h with | str s h => exact ⟨s, rfl, h⟩
theorem fits_unit {xs : List D} (h : Fits .unit xs) : xs = [] := by
  cases h; rfl
theorem fits_pair {a b : Ty} {xs : List D} (h : Fits (.pair a b) xs) : ∃ ys zs, xs = ys ++ zs ∧ Fits a ys ∧ Fits b zs := by
  cases h with | pair a b ys zs h1 h2 => exact ⟨ys, zs, rfl, h1, h2⟩
theorem fits_st {fs : Ty} {xs : List D} (h : Fits (.st fs) xs) : Fits fs xs := by
  cases h with | st fs xs h => exact h
theorem fits_sl {e : Ty} {xs : List D} (h : Fits (.sl e) xs) : ∃ rows, xs = [.sl rows] ∧ rows.length ≤ reachBytes ∧ ∀ row, row ∈ rows → Fits e row := by
  cases h with | sl e rows hl h => exact ⟨rows, rfl, hl, h⟩
theorem fits_arr0 {e : Ty} {xs : List D} (h : Fits (.arr 0 e) xs) : xs = [] := by
  cases h; rfl
theorem fits_arrS {n : Nat} {e : Ty} {xs : List D} (h : Fits (.arr (n + 1) e) xs) : ∃ ys zs, xs = ys ++ zs ∧ Fits e ys ∧ Fits (.arr n e) zs := by
  cases h with | arrS n e ys zs h1 h2 => exact ⟨ys, zs, rfl, h1, h2⟩

theorem reach_max : reachBytes ≤ maxLen := by decide
theorem wf_i64 {n : Int} (h : (Lit.int .i64 n).wf = true) : -9223372036854775808 ≤ n ∧ n ≤ 9223372036854775807 := by
  simp only [Lit.wf, IntKind.min, IntKind.max, IntKind.bits, IntKind.signed] at h
  simp at h
  omega

theorem fit_int {x : D} (h : FitA (.int .i64) x) : ∃ n, x = .int .i64 n ∧ -9223372036854775808 ≤ n ∧ n ≤ 9223372036854775807 := by
  obtain ⟨n, h1, h2⟩ := fits_int h
  simp at h1
  exact ⟨n, h1, wf_i64 h2⟩
theorem fit_bool {x : D} (h : FitA .bool x) : ∃ b, x = .bool b := by
  obtain ⟨n, h1⟩ := fits_bool h
  simp at h1
  exact ⟨n, h1⟩

theorem rows_map {α : Type} {f : α → List D} : ∀ {rows : List (List D)}, (∀ row, row ∈ rows → ∃ a, row = f a) → ∃ l : List α, rows = l.map f
  | [], _ => ⟨[], rfl⟩
  | r :: rows, h => by
    obtain ⟨a, ha⟩ := h r (by simp)
    obtain ⟨l, hl⟩ := rows_map (rows := rows) fun row hr => h row (by simp [hr])
    exact ⟨a :: l, by simp [ha, hl]⟩
theorem rows_mapP {α : Type} {f : α → List D} {p : α → Prop} : ∀ {rows : List (List D)}, (∀ row, row ∈ rows → ∃ a, row = f a ∧ p a) → ∃ l : List α, rows = l.map f ∧ ∀ a, a ∈ l → p a
  | [], _ => ⟨[], rfl, by simp⟩
  | r :: rows, h => by
    obtain ⟨a, ha, hp⟩ := h r (by simp)
    obtain ⟨l, hl, hq⟩ := rows_mapP (rows := rows) fun row hr => h row (by simp [hr])
    exact ⟨a :: l, by simp [ha, hl], fun b hb => by
      rcases List.mem_cons.1 hb with rfl | hb
      · exact hp
      · exact hq b hb⟩

theorem fit_ints {x : D} (h : FitA (.sl (.int .i64)) x) : ∃ l : List Int, x = .sl (l.map fun n => [.int .i64 n]) ∧ l.length ≤ maxLen ∧ ∀ n, n ∈ l → -9223372036854775808 ≤ n ∧ n ≤ 9223372036854775807 := by
  obtain ⟨rows, h1, h2, h3⟩ := fits_sl h
  simp at h1
  subst h1
  obtain ⟨l, rfl, hl⟩ := rows_mapP (f := fun n => [.int .i64 n]) (p := fun n : Int => -9223372036854775808 ≤ n ∧ n ≤ 9223372036854775807) fun row hr => by
    obtain ⟨n, e, hw⟩ := fits_int (h3 row hr)
    exact ⟨n, e, wf_i64 hw⟩
  exact ⟨l, rfl, Nat.le_trans (by simpa using h2) reach_max, hl⟩

abbrev ty2 : Ty := .st (.pair (.int .i64) (.pair (.int .i64) .unit))
abbrev ty3 : Ty := .st (.pair (.int .i64) (.pair (.int .i64) (.pair (.int .i64) .unit)))
theorem fits_2 {xs : List D} (h : Fits ty2 xs) : ∃ a b : Int, xs = [.int .i64 a, .int .i64 b] ∧ (-9223372036854775808 ≤ a ∧ a ≤ 9223372036854775807) ∧ -9223372036854775808 ≤ b ∧ b ≤ 9223372036854775807 := by
  obtain ⟨ys, zs, rfl, h1, h2⟩ := fits_pair (fits_st h)
  obtain ⟨a, rfl, ha⟩ := fits_int h1
  obtain ⟨us, vs, rfl, h3, h4⟩ := fits_pair h2
  obtain ⟨b, rfl, hb⟩ := fits_int h3
  obtain rfl := fits_unit h4
  exact ⟨a, b, rfl, wf_i64 ha, wf_i64 hb⟩
theorem fits_3 {xs : List D} (h : Fits ty3 xs) : ∃ a b c : Int, xs = [.int .i64 a, .int .i64 b, .int .i64 c] := by
  obtain ⟨ys, zs, rfl, h1, h2⟩ := fits_pair (fits_st h)
  obtain ⟨a, rfl, ha⟩ := fits_int h1
  obtain ⟨us, vs, rfl, h3, h4⟩ := fits_pair h2
  obtain ⟨b, rfl, hb⟩ := fits_int h3
  obtain ⟨us, vs, rfl, h5, h6⟩ := fits_pair h4
  obtain ⟨c, rfl, hc⟩ := fits_int h5
  obtain rfl := fits_unit h6
  exact ⟨a, b, c, rfl⟩
theorem fit_2 {x : D} (h : FitA ty2 x) : ∃ a b : Int, x = .agg [.int .i64 a, .int .i64 b] ∧ (-9223372036854775808 ≤ a ∧ a ≤ 9223372036854775807) ∧ -9223372036854775808 ≤ b ∧ b ≤ 9223372036854775807 := by
  obtain ⟨xs, rfl, h⟩ := h
  obtain ⟨a, b, rfl, h1, h2⟩ := fits_2 h
  exact ⟨a, b, rfl, h1, h2⟩
theorem fit_3s {x : D} (h : FitA (.sl ty3) x) : ∃ l : List (Int × Int × Int), x = .sl (l.map fun p => [.int .i64 p.1, .int .i64 p.2.1, .int .i64 p.2.2]) ∧ l.length ≤ maxLen := by
  obtain ⟨rows, h1, h2, h3⟩ := fits_sl h
  simp at h1
  subst h1
  obtain ⟨l, rfl⟩ := rows_map (f := fun p : Int × Int × Int => [.int .i64 p.1, .int .i64 p.2.1, .int .i64 p.2.2]) fun row hr => by
    obtain ⟨a, b, c, e⟩ := fits_3 (h3 row hr)
    exact ⟨(a, b, c), e⟩
  exact ⟨l, rfl, Nat.le_trans (by simpa using h2) reach_max⟩
theorem fit_2s {x : D} (h : FitA (.sl ty2) x) : ∃ l : List (Int × Int), x = .sl (l.map fun p => [.int .i64 p.1, .int .i64 p.2]) ∧ l.length ≤ maxLen := by
  obtain ⟨rows, h1, h2, h3⟩ := fits_sl h
  simp at h1
  subst h1
  obtain ⟨l, rfl⟩ := rows_map (f := fun p : Int × Int => [.int .i64 p.1, .int .i64 p.2]) fun row hr => by
    obtain ⟨a, b, e, _⟩ := fits_2 (h3 row hr)
    exact ⟨(a, b), e⟩
  exact ⟨l, rfl, Nat.le_trans (by simpa using h2) reach_max⟩

abbrev ty4 : Ty := .st (.pair (.int .i64) (.pair (.int .i64) (.pair (.int .i64) (.pair (.int .i64) .unit))))
theorem fit_4 {x : D} (h : FitA ty4 x) : ∃ a b c d : Int, x = .agg [.int .i64 a, .int .i64 b, .int .i64 c, .int .i64 d] := by
  obtain ⟨xs, rfl, h⟩ := h
  obtain ⟨ys, zs, rfl, h1, h2⟩ := fits_pair (fits_st h)
  obtain ⟨a, rfl, ha⟩ := fits_int h1
  obtain ⟨us, vs, rfl, h3, h4⟩ := fits_pair h2
  obtain ⟨b, rfl, hb⟩ := fits_int h3
  obtain ⟨us, vs, rfl, h5, h6⟩ := fits_pair h4
  obtain ⟨c, rfl, hc⟩ := fits_int h5
  obtain ⟨us, vs, rfl, h7, h8⟩ := fits_pair h6
  obtain ⟨d, rfl, hd⟩ := fits_int h7
  obtain rfl := fits_unit h8
  exact ⟨a, b, c, d, rfl⟩
end Go.Aw
