/-
  Own maps: made, looked into, written; keys are whole numbers or rows of them. Over any program; no condition.
-/
import Derived.Test.YtmmnjelmahcbaaaAwV
import Derived.Maps.Keyed
import Derived.Maps.RangeRun
namespace Go.Aw
set_option linter.unusedSimpArgs false
set_option linter.unusedVariables false
open Go.RowKit

/-- A map's key type and value type. -/
def kmap (P : Program) (t : TypeId) : Option (TypeId × TypeId) :=
  match P.underlying t with
  | some (.map k e) => some (k, e)
  | _ => none

def kc1 : V → Option (IntKind × Int)
  | .d (.int k n) => some (k, n)
  | _ => none
def kcs : List V → Option (List (IntKind × Int))
  | [] => some []
  | x :: r => match kc1 x, kcs r with
    | some c, some l => some (c :: l)
    | _, _ => none
/-- A key's cells. -/
def kcells : V → Option (Bool × List (IntKind × Int))
  | .d (.int k n) => some (false, [(k, n)])
  | .agg xs => match kcs xs with
    | some l => some (true, l)
    | none => none
  | _ => none
def kval : Bool × List (IntKind × Int) → Value
  | (false, [(k, n)]) => .int k n
  | (_, l) => .agg (l.map fun p => .int p.1 p.2).toArray

theorem kcs_len : ∀ {xs : List V} {l : List (IntKind × Int)}, kcs xs = some l → l.length = xs.length
  | [], l, h => by simp [kcs] at h; subst h; rfl
  | x :: r, l, h => by
    simp only [kcs] at h
    split at h
    · rename_i c l' h1 h2
      simp at h; subst h
      simp [kcs_len h2]
    · cases h
theorem kcs_get : ∀ {xs : List V} {l : List (IntKind × Int)}, kcs xs = some l → ∀ (j : Nat) (p : IntKind × Int), l[j]? = some p → xs[j]? = some (V.d (D.int p.1 p.2))
  | [], l, h, j, p, hj => by simp [kcs] at h; subst h; simp at hj
  | x :: r, l, h, j, p, hj => by
    simp only [kcs] at h
    split at h
    · rename_i c l' h1 h2
      simp at h; subst h
      cases j with
      | zero =>
        simp at hj; subst hj
        unfold kc1 at h1
        split at h1
        · simp at h1; subst h1; rfl
        · cases h1
      | succ j => simpa using kcs_get h2 j p (by simpa using hj)
    · cases h

theorem kcells_val {E : Env} {F : Nat → Prop} {w : World} {x : V} {c : Bool × List (IntKind × Int)} {v : Value} (h : kcells x = some c) (hx : VR E F w x v) : v = kval c := by
  unfold kcells at h
  split at h
  · simp at h; subst h; exact int_of hx
  · rename_i xs
    split at h
    · rename_i l hl
      simp at h; subst h
      cases hx with
      | agg _ cs hs hr =>
        have : cs = (l.map fun p => Value.int p.1 p.2).toArray := by
          apply Array.ext
          · simp [hs, kcs_len hl]
          · intro i h1 h2
            have h3 : i < l.length := by simpa using h2
            have := hr i _ _ (kcs_get hl i _ (List.getElem?_eq_getElem h3)) (Array.getElem?_eq_getElem h1)
            rw [int_of this]
            simp
        subst this
        cases l with
        | nil => rfl
        | cons a r => rfl
    · cases h
  · cases h

theorem kval_inj {x y : V} {c c' : Bool × List (IntKind × Int)} (h : kcells x = some c) (h' : kcells y = some c') (he : kval c = kval c') : c = c' := by
  have inj : ∀ {l l' : List (IntKind × Int)}, (l.map fun p => Value.int p.1 p.2).toArray = (l'.map fun p => Value.int p.1 p.2).toArray → l = l' := by
    intro l l' h
    have h : (l.map fun p => Value.int p.1 p.2) = (l'.map fun p => Value.int p.1 p.2) := by simpa using congrArg Array.toList h
    exact List.map_inj_right (fun p q hpq => by cases p; cases q; simp at hpq; simp [hpq]) |>.1 h
  unfold kcells at h h'
  split at h
  · simp at h; subst h
    split at h'
    · simp at h'; subst h'
      simp only [kval, Value.int.injEq] at he
      simp [he]
    · split at h'
      · simp at h'; subst h'
        simp [kval] at he
      · cases h'
    · cases h'
  · split at h
    · simp at h; subst h
      split at h'
      · simp at h'; subst h'
        simp [kval] at he
      · split at h'
        · simp at h'; subst h'
          simp only [kval, Value.agg.injEq] at he
          rw [inj he]
        · cases h'
      · cases h'
    · cases h
  · cases h

/-- A key that may be: of the key's type. -/
def kwf (P : Program) (kt : TypeId) (x : V) : Prop := ∃ c l, kcells x = some c ∧ keyOf P kt (kval c) = some l
/-- A map that may be looked into. -/
def MK (P : Program) (kt : TypeId) (es : List (V × V)) : Prop := Maps.Keyed P kt ∧ (∀ p, p ∈ es → kwf P kt p.1) ∧ es.Pairwise fun p q => kcells p.1 ≠ kcells q.1
/-- The place of a key. -/
def mfind (es : List (V × V)) (x : V) : Option Nat := es.findIdx? fun p => decide (kcells p.1 = kcells x)
def mput (es : List (V × V)) (x y : V) : List (V × V) :=
  match mfind es x with
  | some j => es.modify j fun p => (p.1, y)
  | none => es ++ [(x, y)]
/-- A type's zero value. -/
def kzeroV (P : Program) (t : TypeId) : Option V := ((P.info? t).bind (·.zero)).map ofConst

theorem find_sound {P : Program} {E : Env} {F : Nat → Prop} {w : World} {kt : TypeId} {es : List (V × V)} {mes : Array MapEntry} {x : V} {v : Value} (hM : MK P kt es) (hk : kwf P kt x) (hs : mes.size = es.length)
    (hr : ∀ (i : Nat) (p : V × V) (m : MapEntry), es[i]? = some p → mes[i]? = some m → VR E F w p.1 m.key ∧ VR E F w p.2 m.val ∧ m.born = i) (hx : VR E F w x v) :
    (∃ l, keyOf P kt v = some l) ∧ ∀ w', ((Instr.findKey kt v mes.toList).run P w' = .ok none w' ∧ mfind es x = none) ∨
      ∃ j e p, (Instr.findKey kt v mes.toList).run P w' = .ok (some (j, e.val)) w' ∧ mfind es x = some j ∧ mes[j]? = some e ∧ es[j]? = some p ∧ e.key = v := by
  obtain ⟨c, l, hc, hl⟩ := hk
  have hv : v = kval c := kcells_val hc hx
  subst hv
  have hall : ∀ e ∈ mes.toList, ∃ l, keyOf P kt e.key = some l := by
    intro e he
    obtain ⟨i, hi, rfl⟩ := List.getElem_of_mem he
    have hi' : i < es.length := by rw [← hs]; simpa using hi
    obtain ⟨c', l', h1, h2⟩ := hM.2.1 _ (List.getElem_mem hi')
    have := (hr i _ _ (List.getElem?_eq_getElem hi') (Array.getElem?_eq_getElem (by simpa using hi))).1
    exact ⟨l', by rw [Array.getElem_toList, kcells_val h1 this]; exact h2⟩
  refine ⟨⟨l, hl⟩, fun w' => ?_⟩
  rcases hM.1.find w' hl mes.toList hall with ⟨h1, h2⟩ | ⟨j, e, h1, h2, h3⟩
  · refine .inl ⟨h1, ?_⟩
    unfold mfind
    rw [List.findIdx?_eq_none_iff]
    intro p hp
    obtain ⟨i, hi, rfl⟩ := List.getElem_of_mem hp
    have hi' : i < mes.size := by omega
    simp only [decide_eq_false_iff_not]
    intro he
    refine h2 mes[i] (by simp) ?_
    exact kcells_val (he.trans hc) (hr i _ _ (List.getElem?_eq_getElem hi) (Array.getElem?_eq_getElem hi')).1
  · have h2' : mes[j]? = some e := by simpa using h2
    have hj : j < mes.size := (Array.getElem?_eq_some_iff.1 h2').1
    have hj' : j < es.length := by omega
    refine .inr ⟨j, e, es[j], h1, ?_, h2', List.getElem?_eq_getElem hj', h3⟩
    unfold mfind
    obtain ⟨c', l', q1, q2⟩ := hM.2.1 _ (List.getElem_mem hj')
    have q3 := kcells_val q1 (hr j _ _ (List.getElem?_eq_getElem hj') h2').1
    have q4 : c' = c := kval_inj q1 hc (q3.symm.trans h3)
    subst q4
    rw [List.findIdx?_eq_some_iff_getElem]
    refine ⟨hj', by simp [q1, hc], fun i hi => ?_⟩
    have := List.pairwise_iff_getElem.1 hM.2.2 i j (by omega) hj' hi
    rw [q1] at this
    simpa [hc] using this

abbrev setB (w : World) (b : Nat) (o : Obj) : World := { w with heap := w.heap.setIfInBounds b o }

theorem heap_setB_other (w : World) (b c : Nat) (o : Obj) (h : c ≠ b) : (setB w b o).heap[c]? = w.heap[c]? := by
  simp [setB, Array.getElem?_setIfInBounds, Ne.symm h]

theorem not_sz {w : World} {b clock : Nat} {mes : Array MapEntry} (hw : w.heap[b]? = some (.map mes clock)) (n : Nat) : ¬ Sz w b n := fun ⟨c, u, hc, _⟩ => by rw [hw] at hc; cases hc

theorem upd_relM {B : Base} {s : St} {E : Env} {F : Nat → Prop} {w : World} (hr : Rel B s E F w) {i b : Nat} {e : En} {blk blk' : Blk} {o : Obj}
    (he : E[i]? = some e) (hb : s.heap[i]? = some blk) (hl : blk.live = true) (heb : e.blk = some b) (hnc : ∀ n, ¬ Sz w b n)
    (hbr : Evo E F w E F (setB w b o) (fun _ => True) → BR E F (setB w b o) e blk') :
    Evo E F w E F (setB w b o) (fun _ => True) ∧ Rel B { s with heap := s.heap.set i blk' } E F (setB w b o) := by
  obtain ⟨hbl, hbF⟩ := hr.hr.free i b e blk he heb hb hl
  have hsame : ∀ c, F c → (setB w b o).heap[c]? = w.heap[c]? := fun c hc => heap_setB_other w b c o (fun e => hbF (e ▸ hc))
  have hSz : ∀ b' n, Sz w b' n → Sz (setB w b o) b' n := fun b' n hz => by
    by_cases hbb : b' = b
    · subst hbb; exact absurd hz (hnc n)
    · obtain ⟨c, u, hc, hn⟩ := hz
      exact ⟨c, u, (heap_setB_other w b b' o hbb).trans hc, hn⟩
  have evo : Evo E F w E F (setB w b o) (fun _ => True) := ⟨fun _ h => h, hsame, fun _ _ _ h => h, hSz⟩
  have hbr := hbr evo
  have hget : ∀ (j : Nat) (bj : Blk), (s.heap.set i blk')[j]? = some bj → (j = i ∧ bj = blk') ∨ (j ≠ i ∧ s.heap[j]? = some bj) := fun j bj hj => by
    rw [List.getElem?_set] at hj
    split at hj
    · split at hj
      · simp at hj; exact .inl ⟨(by assumption : i = j).symm, hj.symm⟩
      · cases hj
    · exact .inr ⟨Ne.symm (by assumption), hj⟩
  refine ⟨evo, hr.os, hr.tape, ⟨hr.output.output, hr.output.drawn⟩, by simpa using hr.size, hr.F0, hr.only, fun c h1 h2 => (heap_setB_other w b c o (fun q => (hr.src i b e blk he hb hl heb).elim (fun h => by omega) (fun h => h2 (q ▸ h)))).trans (hr.same c h1 h2), by simpa using hr.lt, ⟨by simpa using hr.hr.len, ?_, ?_, ?_⟩, ?_, ?_, fun b' n h => hSz b' n (hr.sz b' n h)⟩
  · intro j ej bj hEj hj
    rcases hget j bj hj with ⟨rfl, rfl⟩ | ⟨hji, hj⟩
    · rw [he] at hEj
      simp only [Option.some.injEq] at hEj
      subst hEj
      exact hbr
    · cases hlj : bj.live with
      | false => cases bj <;> simp_all [Blk.live]; trivial
      | true =>
        refine (hr.hr.blk j ej bj hEj hj).evo evo (fun _ _ => trivial) fun c hc => heap_setB_other w b c o fun e => ?_
        subst e
        exact hji (hr.hr.inj j i c ej _ bj blk hEj he hc heb hj hb hlj hl)
  · intro j c ej bj hEj hc hj hlj
    have : (setB w b o).heap.size = w.heap.size := by simp
    rw [this]
    rcases hget j bj hj with ⟨rfl, rfl⟩ | ⟨hji, hj⟩
    · rw [he] at hEj
      simp only [Option.some.injEq] at hEj
      subst hEj
      exact hr.hr.free j c _ blk he hc hb hl
    · exact hr.hr.free j c ej bj hEj hc hj hlj
  · intro j l c ej el bj bl hEj hEl hcj hcl hj hl' hlj hll
    have hb' : ∀ (j : Nat) (bj : Blk), (s.heap.set i blk')[j]? = some bj → bj.live = true → ∃ b0, s.heap[j]? = some b0 ∧ b0.live = true := fun j bj hj hlj => by
      rcases hget j bj hj with ⟨rfl, rfl⟩ | ⟨hji, hj⟩
      · exact ⟨blk, hb, hl⟩
      · exact ⟨bj, hj, hlj⟩
    obtain ⟨b0, h0, hl0⟩ := hb' j bj hj hlj
    obtain ⟨b1, h1, hl1⟩ := hb' l bl hl' hll
    exact hr.hr.inj j l c ej el b0 b1 hEj hEl hcj hcl h0 h1 hl0 hl1
  · intro j c ej bj hEj hj hlj hc
    rcases hget j bj hj with ⟨rfl, rfl⟩ | ⟨hji, hj⟩
    · exact hr.src j c ej blk hEj hb hl hc
    · exact hr.src j c ej bj hEj hj hlj hc
  · exact hr.keep

/-- Looking into a map. -/
def lookQ (P : Program) (H : List Blk) (t : TypeId) (x i : V) (ok : Bool) : Option (Prop × V) :=
  match x with
  | .map id =>
    match H[id]?, kmap P t with
    | some (.mp es), some (kt, et) =>
      match kzeroV P et with
      | some z => some (MK P kt es ∧ kwf P kt i,
          match mfind es i with
          | some j => if ok then .tup [(es[j]?.getD default).2, .d (.bool true)] else (es[j]?.getD default).2
          | none => if ok then .tup [z, .d (.bool false)] else z)
      | none => none
    | _, _ => none
  | _ => none

theorem tup2 {E : Env} {F : Nat → Prop} {w : World} {x y : V} {u v : Value} (hx : VR E F w x u) (hy : VR E F w y v) : VR E F w (.tup [x, y]) (.tuple #[u, v]) := by
  refine .tup _ _ rfl fun j z t hz ht => ?_
  match j with
  | 0 => simp at hz ht; subst hz ht; exact hx
  | 1 => simp at hz ht; subst hz ht; exact hy
  | j + 2 => simp at hz

theorem kmap_spec {P : Program} {t kt et : TypeId} (h : kmap P t = some (kt, et)) : P.underlying t = some (.map kt et) := by
  unfold kmap at h
  split at h
  · simp at h; obtain ⟨rfl, rfl⟩ := h; assumption
  · cases h

theorem kzeroV_sound {P : Program} {t : TypeId} {z : V} (h : kzeroV P t = some z) : ∃ v, (∀ w, (zeroValue t).run P w = .ok v w) ∧ ∀ E F w, VR E F w z v := by
  unfold kzeroV at h
  cases hi : P.info? t with
  | none => simp [hi] at h
  | some i =>
    cases hz : i.zero with
    | none => simp [hi, hz] at h
    | some z' =>
      simp [hi, hz] at h
      subst h
      exact ⟨z', fun w => by simp [zeroValue, typeInfo, hi, hz], fun E F w => ofConst_sound z'⟩

theorem lookQ_sound {P : Program} {B : Base} {s : St} {w : World} {E : Env} {F : Nat → Prop} {t : TypeId} {x i y : V} {ok : Bool} {ob : Prop} {u v : Value}
    (h : lookQ P s.heap t x i ok = some (ob, y)) (hob : ob) (hr : Rel B s E F w) (hx : VR E F w x u) (hi : VR E F w i v) :
    ∃ r, VR E F w y r ∧ ∀ w', Keep w w' → (Instr.lookup t u v ok).run P w' = .ok r w' := by
  unfold lookQ at h
  split at h
  · rename_i id
    split at h
    · rename_i es kt et hH hm
      split at h
      · rename_i z hz
        simp only [Option.some.injEq, Prod.mk.injEq] at h
        obtain ⟨rfl, rfl⟩ := h
        cases hx with
        | map id b k m hE =>
          obtain ⟨b', mes, h4, hw, hs, hcell⟩ := hr.hr.blk _ _ _ hE hH
          simp only [Option.some.injEq] at h4
          subst h4
          obtain ⟨hbl, _⟩ := hr.hr.free id b _ _ hE rfl hH rfl
          obtain ⟨⟨l, hl⟩, hf⟩ := find_sound hob.1 hob.2 hs hcell hi
          obtain ⟨zv, hz1, hz2⟩ := kzeroV_sound hz
          rcases hf w with ⟨_, h2⟩ | ⟨j, e, p, _, h2, h3, h5, _⟩
          · rw [h2]
            refine ⟨if ok then .tuple #[zv, .bool false] else zv, ?_, fun w' hk => ?_⟩
            · cases ok
              · exact hz2 _ _ _
              · exact tup2 (hz2 _ _ _) (.d _ _ (.bool false))
            · rcases hf w' with ⟨q1, _⟩ | ⟨j, e, p, q1, q2, _⟩
              · have hw' : w'.heap[b]? = some (.map mes mes.size) := (hk b hbl).trans hw
                simp [Instr.lookup, run_underlying (kmap_spec hm), MapKept.run_getObj_map hw', hob.1.1.check w' _ hl, q1, hz1, Result.andThen]
              · rw [h2] at q2; cases q2
          · rw [h2]
            obtain ⟨v1, v2, _⟩ := hcell j p e h5 h3
            refine ⟨if ok then .tuple #[e.val, .bool true] else e.val, ?_, fun w' hk => ?_⟩
            · simp only [h5, Option.getD_some]
              cases ok
              · exact v2
              · exact tup2 v2 (.d _ _ (.bool true))
            · rcases hf w' with ⟨q1, q2⟩ | ⟨j', e', p', q1, q2, q3, _⟩
              · rw [h2] at q2; cases q2
              · rw [h2] at q2
                cases q2
                rw [h3] at q3
                cases q3
                have hw' : w'.heap[b]? = some (.map mes mes.size) := (hk b hbl).trans hw
                simp [Instr.lookup, run_underlying (kmap_spec hm), MapKept.run_getObj_map hw', hob.1.1.check w' _ hl, q1, Result.andThen]
      · cases h
    · cases h
  · cases h

/-- Writing into a map: the heap behind it. -/
def mputQ (P : Program) (H : List Blk) (t : TypeId) (x i y : V) : Option (Prop × List Blk) :=
  match x with
  | .map id =>
    match H[id]?, kmap P t with
    | some (.mp es), some (kt, _) => some (MK P kt es ∧ kwf P kt i, H.set id (.mp (mput es i y)))
    | _, _ => none
  | _ => none

theorem mputQ_sound {P : Program} {B : Base} {s : St} {w : World} {E : Env} {F : Nat → Prop} {t : TypeId} {x i y : V} {ob : Prop} {H' : List Blk} {u v z : Value}
    (h : mputQ P s.heap t x i y = some (ob, H')) (hob : ob) (hr : Rel B s E F w) (hx : VR E F w x u) (hi : VR E F w i v) (hy : VR E F w y z) :
    ∃ w', (Instr.mapUpdate t u v z).run P w = .ok () w' ∧ Evo E F w E F w' (fun _ => True) ∧ Rel B { s with heap := H' } E F w' := by
  unfold mputQ at h
  split at h
  · rename_i id
    split at h
    · rename_i es kt et hH hm
      simp only [Option.some.injEq, Prod.mk.injEq] at h
      obtain ⟨rfl, rfl⟩ := h
      cases hx with
      | map id b k m hE =>
        obtain ⟨b', mes, h4, hw, hs, hcell⟩ := hr.hr.blk _ _ _ hE hH
        simp only [Option.some.injEq] at h4
        subst h4
        obtain ⟨hbl, _⟩ := hr.hr.free id b _ _ hE rfl hH rfl
        obtain ⟨⟨l, hl⟩, hf⟩ := find_sound hob.1 hob.2 hs hcell hi
        rcases hf w with ⟨h1, h2⟩ | ⟨j, e, p, h1, h2, h3, h5, h6⟩
        · have hrun : (Instr.mapUpdate t (.map (some b)) v z).run P w = .ok () (setB w b (.map (mes.push { key := v, val := z, born := mes.size }) (mes.size + 1))) := by
            simp [Instr.mapUpdate, run_underlying (kmap_spec hm), MapKept.run_getObj_map hw, hob.1.1.check w _ hl, h1, Result.andThen, MapKept.run_setObj_map _ hw]
          refine ⟨_, hrun, ?_⟩
          refine upd_relM hr hE hH rfl rfl (not_sz hw) fun evo => ?_
          refine ⟨b, (mes.push { key := v, val := z, born := mes.size } : Array MapEntry), rfl, ?_, ?_, ?_⟩
          · rw [show mes.size + 1 = (mes.push { key := v, val := z, born := mes.size : MapEntry }).size by simp]
            simp [setB, Array.getElem?_setIfInBounds, hbl]
          · simp [mput, h2, hs]
          · intro i' p m hp hm'
            simp only [mput, h2] at hp
            rw [List.getElem?_append] at hp
            split at hp
            · rename_i hlt
              rw [Array.getElem?_push] at hm'
              rw [if_neg (by omega)] at hm'
              obtain ⟨a1, a2, a3⟩ := hcell i' p m hp hm'
              exact ⟨a1.evo evo (fun _ _ => trivial), a2.evo evo (fun _ _ => trivial), a3⟩
            · rename_i hge
              have : i' = es.length := by
                have := (List.getElem?_eq_some_iff.1 hp).1
                simp at this; omega
              subst this
              rw [← hs] at hm'
              simp at hp hm'
              subst hp hm'
              exact ⟨hi.evo evo (fun _ _ => trivial), hy.evo evo (fun _ _ => trivial), hs⟩
        · have hrun : (Instr.mapUpdate t (.map (some b)) v z).run P w = .ok () (setB w b (.map (mes.modify j fun e => { e with key := v, val := z }) mes.size)) := by
            have hst := hob.1.1.stays w hl
            simp [Instr.mapUpdate, run_underlying (kmap_spec hm), MapKept.run_getObj_map hw, hob.1.1.check w _ hl, h1, Result.andThen, MapKept.run_setObj_map _ hw, h3, h6, hst]
          refine ⟨_, hrun, ?_⟩
          refine upd_relM hr hE hH rfl rfl (not_sz hw) fun evo => ?_
          refine ⟨b, (mes.modify j fun e => { e with key := v, val := z } : Array MapEntry), rfl, ?_, ?_, ?_⟩
          · simp only [Array.size_modify]
            simp [setB, Array.getElem?_setIfInBounds, hbl]
          · simp [mput, h2, hs]
          · intro i' p' m hp hm'
            simp only [mput, h2] at hp
            rw [List.getElem?_modify] at hp
            rw [Array.getElem?_modify] at hm'
            simp only [Option.map_eq_map, Option.map_eq_some_iff] at hp hm'
            obtain ⟨p0, hp0, rfl⟩ := hp
            split at hm'
            · rename_i hji
              subst hji
              rw [if_pos rfl]
              simp only [Option.map_eq_some_iff] at hm'
              obtain ⟨m0, hm0, rfl⟩ := hm'
              obtain ⟨a1, a2, a3⟩ := hcell j p0 m0 hp0 hm0
              rw [h3] at hm0
              cases hm0
              exact ⟨h6 ▸ a1.evo evo (fun _ _ => trivial), hy.evo evo (fun _ _ => trivial), a3⟩
            · rename_i hji
              rw [if_neg hji]
              obtain ⟨a1, a2, a3⟩ := hcell i' p0 m hp0 hm'
              exact ⟨a1.evo evo (fun _ _ => trivial), a2.evo evo (fun _ _ => trivial), a3⟩
    · cases h
  · cases h

theorem map_rel {B : Base} {s : St} {E : Env} {F : Nat → Prop} {w : World} (hr : Rel B s E F w) :
    Evo E F w (E ++ [⟨some w.heap.size, 0, 0⟩]) F (w.alloc (.map #[] 0)) (fun _ => True) ∧ Rel B { s with heap := s.heap ++ [.mp []] } (E ++ [⟨some w.heap.size, 0, 0⟩]) F (w.alloc (.map #[] 0)) ∧
      VR (E ++ [⟨some w.heap.size, 0, 0⟩]) F (w.alloc (.map #[] 0)) (.map s.heap.length) (.map (some w.heap.size)) := by
  obtain ⟨h1, h2⟩ := alloc_rel hr (.map #[] 0) (e := ⟨some w.heap.size, 0, 0⟩) (blk := .mp []) rfl fun evo =>
    ⟨w.heap.size, #[], rfl, heap_alloc_new w _, rfl, fun i p m hp => by simp at hp⟩
  refine ⟨h1, h2, ?_⟩
  exact VR.map (E := E ++ [⟨some w.heap.size, 0, 0⟩]) (F := F) (w := w.alloc (.map #[] 0)) s.heap.length w.heap.size 0 0 (by
    rw [← hr.hr.len, List.getElem?_append_right (Nat.le_refl _)]; simp)

/-- The entry of a key, made where there is none: its value and its number. -/
def entryQ (P : Program) (H : List Blk) (t : TypeId) (x i : V) : Option (Prop × V × List Blk) :=
  match x with
  | .map id =>
    match H[id]?, kmap P t with
    | some (.mp es), some (kt, et) =>
      match kzeroV P et with
      | some z => match mfind es i with
        | some j => some (MK P kt es ∧ kwf P kt i, .tup [(es[j]?.getD default).2, .d (.int .i64 j)], H)
        | none => some (MK P kt es ∧ kwf P kt i, .tup [z, .d (.int .i64 es.length)], H.set id (.mp (es ++ [(i, z)])))
      | none => none
    | _, _ => none
  | _ => none
/-- An entry is written by its number. -/
def estoreQ (H : List Blk) (x : V) (n : Int) (y : V) : Option (Prop × List Blk) :=
  match x with
  | .map id =>
    match H[id]? with
    | some (.mp es) => some (0 ≤ n ∧ n < es.length, H.set id (.mp (es.modify n.toNat fun p => (p.1, y))))
    | _ => none
  | _ => none

theorem entryQ_sound {P : Program} {B : Base} {s : St} {w : World} {E : Env} {F : Nat → Prop} {t : TypeId} {x i y : V} {ob : Prop} {H' : List Blk} {u v : Value}
    (h : entryQ P s.heap t x i = some (ob, y, H')) (hob : ob) (hr : Rel B s E F w) (hx : VR E F w x u) (hi : VR E F w i v) :
    ∃ r w', (Instr.mapEntry t u v).run P w = .ok r w' ∧ Evo E F w E F w' (fun _ => True) ∧ Rel B { s with heap := H' } E F w' ∧ VR E F w' y r := by
  unfold entryQ at h
  split at h
  · rename_i id
    split at h
    · rename_i es kt et hH hm
      split at h
      · rename_i z0 hz
        have key : MK P kt es ∧ kwf P kt i → ∀ y H', (match mfind es i with
            | some j => some (MK P kt es ∧ kwf P kt i, V.tup [(es[j]?.getD default).2, .d (.int .i64 j)], s.heap)
            | none => some (MK P kt es ∧ kwf P kt i, .tup [z0, .d (.int .i64 es.length)], s.heap.set id (.mp (es ++ [(i, z0)])))) = some (MK P kt es ∧ kwf P kt i, y, H') →
            ∃ r w', (Instr.mapEntry t u v).run P w = .ok r w' ∧ Evo E F w E F w' (fun _ => True) ∧ Rel B { s with heap := H' } E F w' ∧ VR E F w' y r := by
          intro hob y H' h
          cases hx with
          | map id b k m hE =>
            obtain ⟨b', mes, h4, hw, hs, hcell⟩ := hr.hr.blk _ _ _ hE hH
            simp only [Option.some.injEq] at h4
            subst h4
            obtain ⟨hbl, _⟩ := hr.hr.free id b _ _ hE rfl hH rfl
            obtain ⟨⟨l, hl⟩, hf⟩ := find_sound hob.1 hob.2 hs hcell hi
            obtain ⟨zv, hz1, hz2⟩ := kzeroV_sound hz
            rcases hf w with ⟨h1, h2⟩ | ⟨j, e, p, h1, h2, h3, h5, h6⟩
            · rw [h2] at h
              simp only [Option.some.injEq, Prod.mk.injEq, true_and] at h
              obtain ⟨rfl, rfl⟩ := h
              have hrun : (Instr.mapEntry t (.map (some b)) v).run P w = .ok (.tuple #[zv, goInt mes.size]) (setB w b (.map (mes.push { key := v, val := zv, born := mes.size }) (mes.size + 1))) := by
                simp [Instr.mapEntry, run_underlying (kmap_spec hm), MapKept.run_getObj_map hw, hob.1.1.check w _ hl, h1, hz1, Result.andThen, MapKept.run_setObj_map _ hw]
              obtain ⟨e1, e2⟩ := upd_relM (blk' := .mp (es ++ [(i, z0)])) (o := .map (mes.push { key := v, val := zv, born := mes.size }) (mes.size + 1)) hr hE hH rfl rfl (not_sz hw) fun evo => by
                refine ⟨b, (mes.push { key := v, val := zv, born := mes.size } : Array MapEntry), rfl, ?_, ?_, ?_⟩
                · rw [show mes.size + 1 = (mes.push { key := v, val := zv, born := mes.size : MapEntry }).size by simp]
                  simp [setB, Array.getElem?_setIfInBounds, hbl]
                · simp [hs]
                · intro i' p m hp hm'
                  rw [List.getElem?_append] at hp
                  split at hp
                  · rename_i hlt
                    rw [Array.getElem?_push] at hm'
                    rw [if_neg (by omega)] at hm'
                    obtain ⟨a1, a2, a3⟩ := hcell i' p m hp hm'
                    exact ⟨a1.evo evo (fun _ _ => trivial), a2.evo evo (fun _ _ => trivial), a3⟩
                  · rename_i hge
                    have : i' = es.length := by
                      have := (List.getElem?_eq_some_iff.1 hp).1
                      simp at this; omega
                    subst this
                    rw [← hs] at hm'
                    simp at hp hm'
                    subst hp hm'
                    exact ⟨hi.evo evo (fun _ _ => trivial), hz2 _ _ _, hs⟩
              refine ⟨_, _, hrun, e1, e2, tup2 (hz2 _ _ _) ?_⟩
              rw [hs]
              exact .d _ _ (.int _ _)
            · rw [h2] at h
              simp only [Option.some.injEq, Prod.mk.injEq, true_and] at h
              obtain ⟨rfl, rfl⟩ := h
              obtain ⟨a1, a2, a3⟩ := hcell j p e h5 h3
              have hmod : (mes.modify j fun e => { e with key := v }) = mes := by
                apply Array.ext_getElem?
                intro q
                rw [Array.getElem?_modify]
                split
                · rename_i hq
                  subst hq
                  rw [h3]
                  simp [← h6]
                · rfl
              have hrun : (Instr.mapEntry t (.map (some b)) v).run P w = .ok (.tuple #[e.val, goInt e.born]) (setB w b (.map mes mes.size)) := by
                have hst := hob.1.1.stays w hl
                simp [Instr.mapEntry, run_underlying (kmap_spec hm), MapKept.run_getObj_map hw, hob.1.1.check w _ hl, h1, Result.andThen, MapKept.run_setObj_map _ hw, h3, h6, hst, hmod]
              have hsame : setB w b (.map mes mes.size) = w := by
                have : w.heap.setIfInBounds b (.map mes mes.size) = w.heap := by
                  apply Array.ext_getElem?
                  intro q
                  rw [Array.getElem?_setIfInBounds]
                  split
                  · rename_i hq; subst hq; simp [hbl, hw] at *; simpa [hbl] using hw.symm
                  · rfl
                show ({ w with heap := w.heap.setIfInBounds b (.map mes mes.size) } : World) = w
                rw [this]
              rw [hsame] at hrun
              refine ⟨_, w, hrun, ⟨fun _ h => h, fun _ _ => rfl, fun _ _ _ h => h, fun _ _ h => h⟩, ⟨hr.os, hr.tape, hr.output, hr.size, hr.F0, hr.only, hr.same, hr.lt, hr.hr, hr.src, hr.keep, hr.sz⟩, ?_⟩
              simp only [h5, Option.getD_some]
              refine tup2 a2 ?_
              rw [a3]
              exact .d _ _ (.int _ _)
        split at h
        · rename_i j hj
          simp only [Option.some.injEq, Prod.mk.injEq] at h
          obtain ⟨rfl, rfl, rfl⟩ := h
          exact key hob _ _ (by rw [hj])
        · rename_i hj
          simp only [Option.some.injEq, Prod.mk.injEq] at h
          obtain ⟨rfl, rfl, rfl⟩ := h
          exact key hob _ _ (by rw [hj])
      · cases h
    · cases h
  · cases h

theorem estoreQ_sound {P : Program} {B : Base} {s : St} {w : World} {E : Env} {F : Nat → Prop} {t : TypeId} {x y : V} {n : Int} {ob : Prop} {H' : List Blk} {u z : Value} (kd : IntKind)
    (h : estoreQ s.heap x n y = some (ob, H')) (hob : ob) (hr : Rel B s E F w) (hx : VR E F w x u) (hy : VR E F w y z) :
    ∃ w', (Instr.entryStore t u (.int kd n) z).run P w = .ok () w' ∧ Evo E F w E F w' (fun _ => True) ∧ Rel B { s with heap := H' } E F w' := by
  unfold estoreQ at h
  split at h
  · rename_i id
    split at h
    · rename_i es hH
      simp only [Option.some.injEq, Prod.mk.injEq] at h
      obtain ⟨rfl, rfl⟩ := h
      cases hx with
      | map id b k m hE =>
        obtain ⟨b', mes, h4, hw, hs, hcell⟩ := hr.hr.blk _ _ _ hE hH
        simp only [Option.some.injEq] at h4
        subst h4
        obtain ⟨hbl, _⟩ := hr.hr.free id b _ _ hE rfl hH rfl
        have hj : n.toNat < mes.size := by omega
        have hborn : ∀ i (h : i < mes.size), mes[i].born = i := fun i h =>
          (hcell i _ _ (List.getElem?_eq_getElem (by omega)) (Array.getElem?_eq_getElem h)).2.2
        have hfind : mes.findIdx? (fun e => (e.born : Int) == n) = some n.toNat := by
          rw [Array.findIdx?_eq_some_iff_getElem]
          refine ⟨hj, by simp [hborn]; omega, fun i hi => ?_⟩
          simp [hborn]
          omega
        have hrun : (Instr.entryStore t (.map (some b)) (.int kd n) z).run P w = .ok () (setB w b (.map (mes.modify n.toNat fun e => { e with val := z }) mes.size)) := by
          simp [Instr.entryStore, MapKept.run_getObj_map hw, Result.andThen, asInt, asIntOf, hfind, MapKept.run_setObj_map _ hw]
        refine ⟨_, hrun, ?_⟩
        refine upd_relM hr hE hH rfl rfl (not_sz hw) fun evo => ?_
        refine ⟨b, (mes.modify n.toNat fun e => { e with val := z } : Array MapEntry), rfl, ?_, ?_, ?_⟩
        · simp only [Array.size_modify]
          simp [setB, Array.getElem?_setIfInBounds, hbl]
        · simp [hs]
        · intro i' p' m hp hm'
          rw [List.getElem?_modify] at hp
          rw [Array.getElem?_modify] at hm'
          simp only [Option.map_eq_map, Option.map_eq_some_iff] at hp
          obtain ⟨p0, hp0, rfl⟩ := hp
          split at hm'
          · rename_i hji
            subst hji
            rw [if_pos rfl]
            simp only [Option.map_eq_some_iff] at hm'
            obtain ⟨m0, hm0, rfl⟩ := hm'
            obtain ⟨a1, a2, a3⟩ := hcell _ p0 m0 hp0 hm0
            exact ⟨a1.evo evo (fun _ _ => trivial), hy.evo evo (fun _ _ => trivial), a3⟩
          · rename_i hji
            rw [if_neg hji]
            obtain ⟨a1, a2, a3⟩ := hcell i' p0 m hp0 hm'
            exact ⟨a1.evo evo (fun _ _ => trivial), a2.evo evo (fun _ _ => trivial), a3⟩
    · cases h
  · cases h

/-- An iterator over an own map. -/
theorem iter_rel {B : Base} {s : St} {E : Env} {F : Nat → Prop} {w : World} (hr : Rel B s E F w) {x : V} {m n : Nat} (hx : VR E F w x (.map (some m))) :
    Evo E F w (E ++ [⟨some w.heap.size, 0, 1⟩]) F (w.alloc (.mapIter (some m) n #[] n)) (fun _ => True) ∧ Rel B { s with heap := s.heap ++ [.it x [] n] } (E ++ [⟨some w.heap.size, 0, 1⟩]) F (w.alloc (.mapIter (some m) n #[] n)) ∧
      VR (E ++ [⟨some w.heap.size, 0, 1⟩]) F (w.alloc (.mapIter (some m) n #[] n)) (.ptr s.heap.length 0 0) (.pointer (some ⟨w.heap.size, 0, none⟩)) := by
  obtain ⟨h1, h2⟩ := alloc_rel hr (.mapIter (some m) n #[] n) (e := ⟨some w.heap.size, 0, 1⟩) (blk := .it x [] n) rfl fun evo =>
    ⟨w.heap.size, m, rfl, heap_alloc_new w _, hx.evo evo (fun _ _ => trivial)⟩
  refine ⟨h1, h2, ?_⟩
  have := VR.ptr (E := E ++ [⟨some w.heap.size, 0, 1⟩]) (F := F) (w := w.alloc (.mapIter (some m) n #[] n)) s.heap.length 0 0 w.heap.size 0 1 (by
    rw [← hr.hr.len, List.getElem?_append_right (Nat.le_refl _)]; simp) (by omega)
  simpa using this

def rangeQ (P : Program) (s : St) (t : TypeId) (x : V) : Option (Prop × V × St) :=
  match x with
  | .map id =>
    match s.heap[id]?, kmap P t with
    | some (.mp es), some _ => some (True, .ptr s.heap.length 0 0, { s with heap := s.heap ++ [.it (.map id) [] es.length] })
    | _, _ => none
  | _ => none

theorem rangeQ_sound {P : Program} {B : Base} {s s' : St} {w : World} {E : Env} {F : Nat → Prop} {t : TypeId} {x y : V} {ob : Prop} {u : Value} (h : rangeQ P s t x = some (ob, y, s')) (hr : Rel B s E F w) (hx : VR E F w x u) :
    ∃ r w' E', (Instr.range t u).run P w = .ok r w' ∧ Keep w w' ∧ Evo E F w E' F w' (fun _ => True) ∧ Rel B s' E' F w' ∧ VR E' F w' y r ∧ s'.tm = s.tm := by
  unfold rangeQ at h
  split at h
  · rename_i id
    split at h
    · rename_i es kt hH hm
      simp only [Option.some.injEq, Prod.mk.injEq] at h
      obtain ⟨_, rfl, rfl⟩ := h
      have hx0 := hx
      cases hx with
      | map id b k m hE =>
        obtain ⟨b', mes, h4, hw, hs, hcell⟩ := hr.hr.blk _ _ _ hE hH
        simp only [Option.some.injEq] at h4
        subst h4
        obtain ⟨h1, h2, h3⟩ := iter_rel (n := es.length) hr hx0
        obtain ⟨k1, k2⟩ := kt
        refine ⟨_, _, _, ?_, fun c hc => Below.heap_alloc w _ c hc, h1, h2, h3, rfl⟩
        rw [← hs]
        have hnew : ∀ o : Obj, (newObj o).run P w = .ok w.heap.size (w.alloc o) := fun o => rfl
        simp [Instr.range, run_underlying (kmap_spec hm), MapKept.run_getObj_map hw, Result.andThen, hnew]
    · cases h
  · cases h

/-- The step of an iterator: over which entries, what was seen. -/
def nextQ (H : List Blk) (x : V) : Option (Nat × V × List Nat × Nat × List (V × V)) :=
  match x with
  | .ptr id 0 0 =>
    match H[id]? with
    | some (.it (.map m) seen n) =>
      match H[m]? with
      | some (.mp es) => some (id, .map m, seen, n, es)
      | _ => none
    | _ => none
  | _ => none

theorem nextQ_spec {H : List Blk} {x mv : V} {id n : Nat} {seen : List Nat} {es : List (V × V)} (h : nextQ H x = some (id, mv, seen, n, es)) : x = .ptr id 0 0 ∧ ∃ m, mv = .map m ∧ H[id]? = some (.it (.map m) seen n) ∧ H[m]? = some (.mp es) := by
  unfold nextQ at h
  split at h
  · split at h
    · split at h
      · simp only [Option.some.injEq, Prod.mk.injEq] at h
        obtain ⟨rfl, rfl, rfl, rfl, rfl⟩ := h
        exact ⟨rfl, _, rfl, by assumption, by assumption⟩
      · cases h
    · cases h
  · cases h

/-- What the model holds of an iterator and its map. -/
theorem iter_at {B : Base} {s : St} {w : World} {E : Env} {F : Nat → Prop} {m id n : Nat} {seen : List Nat} {es : List (V × V)} {u : Value} (hr : Rel B s E F w) (hx : VR E F w (.ptr id 0 0) u) (h1 : s.heap[id]? = some (.it (.map m) seen n)) (h2 : s.heap[m]? = some (.mp es)) :
    ∃ b bm mes e, u = .pointer (some ⟨b, 0, none⟩) ∧ E[id]? = some e ∧ e.blk = some b ∧ w.heap[b]? = some (.mapIter (some bm) n seen.toArray n) ∧ w.heap[bm]? = some (.map mes mes.size) ∧ mes.size = es.length ∧ VR E F w (.map m) (.map (some bm)) ∧
      ∀ (i : Nat) (p : V × V) (q : MapEntry), es[i]? = some p → mes[i]? = some q → VR E F w p.1 q.key ∧ VR E F w p.2 q.val ∧ q.born = i := by
  cases hx with
  | ptr _ _ _ b k mm hE hm =>
    obtain ⟨b', bm, h4, hw, hv⟩ := hr.hr.blk _ _ _ hE h1
    simp only [Option.some.injEq] at h4
    subst h4
    have hv0 := hv
    cases hv with
    | map _ _ k2 m2 hE2 =>
      obtain ⟨b2, mes, h5, hw2, hs, hcell⟩ := hr.hr.blk _ _ _ hE2 h2
      simp only [Option.some.injEq] at h5
      subst h5
      exact ⟨b, bm, mes, _, by simp, hE, rfl, hw, hw2, hs, hv0, hcell⟩

theorem tup3 {E : Env} {F : Nat → Prop} {w : World} {x y z : V} {u v t : Value} (hx : VR E F w x u) (hy : VR E F w y v) (hz : VR E F w z t) : VR E F w (.tup [x, y, z]) (.tuple #[u, v, t]) := by
  refine .tup _ _ rfl fun j a b ha hb => ?_
  match j with
  | 0 => simp at ha hb; subst ha hb; exact hx
  | 1 => simp at ha hb; subst ha hb; exact hy
  | 2 => simp at ha hb; subst ha hb; exact hz
  | j + 3 => simp at ha

theorem nextQ_sound {P : Program} {B : Base} {s : St} {w : World} {E : Env} {F : Nat → Prop} {x mv : V} {id n : Nat} {seen : List Nat} {es : List (V × V)} {u : Value} (ty : TypeId) (h : nextQ s.heap x = some (id, mv, seen, n, es)) (hn : n = es.length)
    (hr : Rel B s E F w) (hx : VR E F w x u) :
    ((∀ j, j < es.length → j ∈ seen) ∧ (Instr.next u false ty).run P w = .ok (.tuple #[.bool false]) w) ∨
    ∃ j p, es[j]? = some p ∧ j ∉ seen ∧ ∃ r w', (Instr.next u false ty).run P w = .ok r w' ∧ Evo E F w E F w' (fun _ => True) ∧ Rel B { s with heap := s.heap.set id (.it mv (seen ++ [j]) n) } E F w' ∧ VR E F w' (.tup [.d (.bool true), p.1, p.2]) r := by
  obtain ⟨rfl, m, rfl, h1, h2⟩ := nextQ_spec h
  obtain ⟨b, bm, mes, e, rfl, hE, heb, hw, hw2, hs, hv, hcell⟩ := iter_at hr hx h1 h2
  have hborn : ∀ i (hi : i < mes.size), mes[i].born = i := fun i hi => (hcell i _ _ (List.getElem?_eq_getElem (by omega)) (Array.getElem?_eq_getElem hi)).2.2
  have hhold : ∀ q ∈ mes.toList, q.born < n := fun q hq => by
    obtain ⟨i, hi, rfl⟩ := List.getElem_of_mem hq
    have hi' : i < mes.size := by simpa using hi
    rw [Array.getElem_toList, hborn i hi']
    omega
  rcases run_next_at (P := P) w ty b bm n n seen.toArray mes mes.size hw hw2 hhold (Nat.le_refl _) with ⟨g1, g2⟩ | ⟨q, hq, w1, hw1, hrun⟩
  · refine .inl ⟨fun j hj => ?_, g2⟩
    have hj' : j < mes.size := by omega
    have hemp : leftOf mes seen.toArray = #[] := Array.eq_empty_of_size_eq_zero g1
    unfold leftOf at hemp
    rw [Array.filter_eq_empty_iff] at hemp
    have := hemp mes[j] (Array.getElem_mem hj')
    rw [hborn j hj'] at this
    simpa using this
  · unfold leftOf at hq
    simp only [Array.toList_filter, List.mem_filter] at hq
    obtain ⟨hq1, hq2⟩ := hq
    obtain ⟨j, hj, rfl⟩ := List.getElem_of_mem hq1
    have hj' : j < mes.size := by simpa using hj
    rw [Array.getElem_toList] at hq2 hrun
    have hb := hborn j hj'
    rw [hb] at hq2 hrun
    have hjs : j ∉ seen := by simpa using hq2
    have hje : j < es.length := by omega
    obtain ⟨a1, a2, _⟩ := hcell j es[j] mes[j] (List.getElem?_eq_getElem hje) (Array.getElem?_eq_getElem hj')
    refine .inr ⟨j, es[j], List.getElem?_eq_getElem hje, hjs, _, _, hrun, ?_⟩
    have key : ∀ w1 : World, w1.heap[b]? = some (.mapIter (some bm) n seen.toArray n) → Rel B s E F w1 → VR E F w1 (.map m) (.map (some bm)) → VR E F w1 es[j].1 mes[j].key → VR E F w1 es[j].2 mes[j].val →
        Evo E F w1 E F (setB w1 b (.mapIter (some bm) n (seen.toArray.push j) mes.size)) (fun _ => True) ∧ Rel B { s with heap := s.heap.set id (.it (.map m) (seen ++ [j]) n) } E F (setB w1 b (.mapIter (some bm) n (seen.toArray.push j) mes.size)) ∧
        VR E F (setB w1 b (.mapIter (some bm) n (seen.toArray.push j) mes.size)) (.tup [.d (.bool true), es[j].1, es[j].2]) (.tuple #[.bool true, mes[j].key, mes[j].val]) := by
      intro w1 hw1 hr1 hv1 b1 b2
      have hbl : b < w1.heap.size := (Array.getElem?_eq_some_iff.1 hw1).1
      obtain ⟨e1, e2⟩ := upd_relM (blk' := .it (.map m) (seen ++ [j]) n) (o := .mapIter (some bm) n (seen.toArray.push j) mes.size) hr1 hE h1 rfl heb (fun n ⟨c, u, hc, _⟩ => by rw [hw1] at hc; cases hc) fun evo => by
        refine ⟨b, bm, heb, ?_, hv1.evo evo (fun _ _ => trivial)⟩
        rw [hs, ← hn]
        simp [setB, Array.getElem?_setIfInBounds, hbl]
      exact ⟨e1, e2, tup3 (.d _ _ (.bool true)) (b1.evo e1 (fun _ _ => trivial)) (b2.evo e1 (fun _ _ => trivial))⟩
    rcases hw1 with rfl | rfl
    · exact key _ hw hr hv a1 a2
    · have ed : Evo E F w E F w.drew (fun _ => True) := ⟨fun _ h => h, fun _ _ => rfl, fun _ _ _ h => h, fun _ _ h => h⟩
      obtain ⟨k1, k2, k3⟩ := key w.drew hw hr.drew (hv.evo ed (fun _ _ => trivial)) (a1.evo ed (fun _ _ => trivial)) (a2.evo ed (fun _ _ => trivial))
      exact ⟨⟨k1.up, k1.same, k1.env, k1.sz⟩, k2, k3⟩

/-- The entry of the step. -/
def entryOf (H : List Blk) (x : V) : Option (Prop × V) :=
  match nextQ H x with
  | some (_, _, seen, n, es) =>
    match seen.getLast? with
    | some j => some (n = es.length ∧ j < es.length, .tup [(es[j]?.getD default).1, (es[j]?.getD default).2])
    | none => none
  | none => none

theorem entryOf_sound {P : Program} {B : Base} {s : St} {w : World} {E : Env} {F : Nat → Prop} {x y : V} {ob : Prop} {u : Value} (h : entryOf s.heap x = some (ob, y)) (hob : ob) (hr : Rel B s E F w) (hx : VR E F w x u) :
    ∃ r, VR E F w y r ∧ ∀ w', Keep w w' → (Instr.entry u).run P w' = .ok r w' := by
  unfold entryOf at h
  split at h
  · rename_i id mv seen n es hq
    split at h
    · rename_i j hj
      simp only [Option.some.injEq, Prod.mk.injEq] at h
      obtain ⟨rfl, rfl⟩ := h
      obtain ⟨hn, hjl⟩ := hob
      obtain ⟨rfl, m, rfl, h1, h2⟩ := nextQ_spec hq
      obtain ⟨b, bm, mes, e, rfl, hE, heb, hw, hw2, hs, hv, hcell⟩ := iter_at hr hx h1 h2
      have hborn : ∀ i (hi : i < mes.size), mes[i].born = i := fun i hi => (hcell i _ _ (List.getElem?_eq_getElem (by omega)) (Array.getElem?_eq_getElem hi)).2.2
      have hj' : j < mes.size := by omega
      obtain ⟨a1, a2, a3⟩ := hcell j es[j] mes[j] (List.getElem?_eq_getElem hjl) (Array.getElem?_eq_getElem hj')
      refine ⟨.tuple #[mes[j].key, mes[j].val], ?_, fun w' hk => ?_⟩
      · rw [List.getElem?_eq_getElem hjl, Option.getD_some]
        exact tup2 a1 a2
      · obtain ⟨s0, hs0⟩ : ∃ s0, seen = s0 ++ [j] := by
          rw [List.getLast?_eq_some_iff] at hj
          exact hj
        have hw' : w'.heap[b]? = some (.mapIter (some bm) n (s0.toArray.push mes[j].born) mes.size) := by
          rw [hk b (Array.getElem?_eq_some_iff.1 hw).1, hw, hs0, a3, hs, hn]
          simp
        refine run_entry_at w' b bm n s0.toArray mes mes.size mes[j] hw' ((hk bm (Array.getElem?_eq_some_iff.1 hw2).1).trans hw2) (by simp) ?_
        have : mes.toList.map (·.born) = List.range mes.size := by
          apply List.ext_getElem?
          intro i
          by_cases hi : i < mes.size
          · simp [List.getElem?_range hi, hi, hborn i hi]
          · simp [hi, List.getElem?_eq_none (show (List.range mes.size).length ≤ i by simp; omega)]
        rw [this]
        exact List.nodup_range
    · cases h
  · cases h

end Go.Aw
