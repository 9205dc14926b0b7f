/-
  append: onto nothing, onto a row of the walk's own: the law. Over any program; no condition.
-/
import Derived.Test.YtmmnjelmahcbaaaAwK
namespace Go.Aw
set_option linter.unusedSimpArgs false
set_option linter.unusedVariables false
open Go.RowKit

/-- A slice or a string, by its type? -/
def kseq (P : Program) (t : TypeId) : Bool :=
  match P.underlying t with
  | some (.slice _) => true
  | some .string => true
  | _ => false

theorem kseq_spec {P : Program} {t : TypeId} (h : kseq P t = true) : (∃ e, P.underlying t = some (.slice e)) ∨ P.underlying t = some .string := by
  unfold kseq at h
  split at h
  · rename_i e hu; exact .inl ⟨_, hu⟩
  · rename_i hu; exact .inr hu
  · cases h

theorem run_append_in {P : Program} {w : World} {t t2 ty e : TypeId} {i : TypeInfo} (ht : P.underlying t = some (.slice e)) (hi : P.info? e = some i) (ht2 : kseq P t2 = true)
    (a : Option Addr) (len cap n : Nat) (x : Value) (cs : Array Value) (w' : World) (hl : ∀ w, (Builtin.lenOf x).run P w = .ok n w) (hf : (Builtin.firstCells i.size n x).run P w = .ok cs w) (hroom : len + n ≤ cap)
    (hst : (match a with | some ad => storeCells (ad.add (len * i.size)) cs.toList | none => pure ()).run P w = .ok () w') :
    (Builtin.append_ #[t, t2] ty #[.slice a len cap, x]).run P w = .ok (.slice a (len + n) cap) w' := by
  rcases kseq_spec ht2 with ⟨e', hd⟩ | hd <;> cases a with
  | none =>
    simp only [Sem.run_pure] at hst
    cases hst
    simp [Builtin.append_, run_underlying ht, sizeOf, typeInfo, hi, run_underlying hd, hl, hroom, hf]
  | some ad =>
    simp only at hst
    simp [Builtin.append_, run_underlying ht, sizeOf, typeInfo, hi, run_underlying hd, hl, hroom, hf, hst]

theorem run_append_out {P : Program} {w : World} {t t2 ty e : TypeId} {i : TypeInfo} {z : Value} (ht : P.underlying t = some (.slice e)) (hi : P.info? e = some i) (hz : i.zero = some z) (ht2 : kseq P t2 = true)
    (a : Option Addr) (len cap n : Nat) (x : Value) (os cs : Array Value) (hl : ∀ w, (Builtin.lenOf x).run P w = .ok n w) (hf : (Builtin.firstCells i.size n x).run P w.drew = .ok cs w.drew)
    (hfo : (Builtin.firstCells i.size len (.slice a len cap)).run P w.drew = .ok os w.drew) (hroom : cap < len + n) (hbytes : (len + n) * i.bytes ≤ 140737488355328) (h63 : len + n ≤ 9223372036854775807) :
    (Builtin.append_ #[t, t2] ty #[.slice a len cap, x]).run P w = .ok (.slice (some ⟨w.heap.size, 0, none⟩) (len + n) (grownCap w (len + n) cap e))
      (w.drew.alloc (.cells (os ++ cs ++ Builtin.zeroCells z.cells (grownCap w (len + n) cap e - (len + n))) e)) := by
  have hn : ¬ (len + n ≤ cap) := by omega
  have h63' : ¬ (9223372036854775807 < ((len : Int) + (n : Int))) := by omega
  have h48' : ¬ (281474976710656 < Builtin.nextslicecap (len + n) cap * i.bytes) := by have := growslice_fits (bytes := i.bytes) hroom hbytes; omega
  rcases kseq_spec ht2 with ⟨e', hd⟩ | hd <;>
    simp [Builtin.append_, run_underlying ht, sizeOf, typeInfo, zeroValue, hi, hz, run_underlying hd, hl, hn, h63', h48', Question.forced, hf, hfo, newRow, grownCap]

theorem le_grownCap (w : World) (need old : Nat) (e : TypeId) : need ≤ grownCap w need old e := by
  simp [grownCap, Question.cut]

/-- append(dst, src...): what it asks, what it yields, the state behind it. 'kp': own blocks that stay where they lie. -/
def appQ (P : Program) (kp : List Nat) (s : St) (t t2 : TypeId) (dst src : V) : Option (Prop × V × St) :=
  match kel P t with
  | some (none, k, u) =>
    match kbytes P u, kzero P u, srcQ s.heap k src with
    | some by_, some zs, some (ob, ys) =>
      match dst with
      | .nil => some ((kseq P t2 = true ∧ zs.length = k ∧ ys.length * by_ ≤ 140737488355328 ∧ ys.length ≤ 9223372036854775807) ∧ ob, .ref s.heap.length 0 ys.length, { s with heap := s.heap ++ [.data k ys] })
      | .ref id off len =>
        match s.heap[id]? with
        | some (.data k' rows) => some ((kseq P t2 = true ∧ zs.length = k ∧ k = k' ∧ off = 0 ∧ id ∉ kp ∧ (len + ys.length) * by_ ≤ 140737488355328 ∧ len + ys.length ≤ 9223372036854775807) ∧ ob, .ref id 0 (len + ys.length),
            { tm := tmScr id s.tm, heap := (heapScr id s.heap).set id (.data k (rows.take len ++ ys)) })
        | _ => none
      | _ => none
    | _, _, _ => none
  | _ => none

theorem size_zeroCells (z : Array Value) (n : Nat) : (Builtin.zeroCells z n).size = n * z.size := by simp [Builtin.zeroCells]

theorem get3 {os cs zz : Array Value} {j : Nat} (h : j < os.size + cs.size) : (os ++ cs ++ zz)[j]? = (os ++ cs)[j]? := by
  rw [Array.getElem?_append_left (by simp; omega)]

theorem appQ_sound {P : Program} {B : Base} {s s' : St} {a : Act} {w : World} {E : Env} {F : Nat → Prop} {t t2 ty : TypeId} {dst src x : V} {ob : Prop} {v u : Value}
    (h : appQ P B.keep s t t2 dst src = some (ob, x, s')) (hob : ob) (hs : Sim B s a w E F) (hd : VR E F w dst v) (hsr : VR E F w src u) :
    ∃ r w' E', (Builtin.append_ #[t, t2] ty #[v, u]).run P w = .ok r w' ∧ Sim B s' a w' E' F ∧ VR E' F w' x r := by
  unfold appQ at h
  split at h
  · rename_i k e hk
    obtain ⟨i, ht, hi, rfl⟩ := kel_slice hk
    split at h
    · rename_i by_ zs ob' ys hby hz hsrc
      simp [kbytes, hi] at hby
      subst hby
      obtain ⟨i', z, hi', hz', rfl⟩ := kzero_spec hz
      rw [hi] at hi'
      cases hi'
      split at h
      · -- onto nothing
        simp only [Option.some.injEq, Prod.mk.injEq] at h
        obtain ⟨rfl, rfl, rfl⟩ := h
        obtain ⟨⟨h2, hzl, hb, h63⟩, hob⟩ := hob
        obtain ⟨cs, hc⟩ := srcQ_sound (P := P) hsrc hob hs.rel.hr hs.rel.lt hsr
        cases hd with
        | nil ad =>
          by_cases h0 : ys.length = 0
          · obtain rfl := List.length_eq_zero_iff.1 h0
            have hcs : cs = [] := List.length_eq_zero_iff.1 (by simpa using hc.size)
            subst hcs
            obtain ⟨e1, e2⟩ := virt_rel hs.rel i.size
            refine ⟨_, w, _, run_append_in (ty := ty) ht hi h2 ad 0 0 0 u #[] w hc.len (hc.run w (Keep.refl w)) (Nat.le_refl _) (by cases ad <;> simp [storeCells]), hs.evo e1 e2 rfl, ?_⟩
            exact .refv _ i.size 0 _ (by rw [← hs.rel.hr.len, List.getElem?_append_right (Nat.le_refl _)]; simp)
          · have hrun := run_append_out (ty := ty) ht hi hz' h2 ad 0 0 ys.length u #[] cs.toArray hc.len (hc.run _ (fun _ _ => rfl)) (by cases ad <;> simp [Builtin.firstCells, run_load0]) (by omega) (by simpa using hb) (by omega)
            simp only [Nat.zero_add] at hrun
            have hg := le_grownCap w ys.length 0 e
            have hz2 : z.cells.size = i.size := by simpa using hzl
            obtain ⟨e1, e2, e3⟩ := row_rel hs.rel.drew e (#[] ++ cs.toArray ++ Builtin.zeroCells z.cells (grownCap w ys.length 0 e - ys.length)) i.size (grownCap w ys.length 0 e) ys hc.row hg (by
                simp only [Array.size_append, List.size_toArray, size_zeroCells, hc.size, hz2, ← Nat.add_mul, List.length_nil, Nat.zero_add]
                exact Nat.mul_le_mul_right _ (by omega)) (fun l row j y hl hj => by
                obtain ⟨uu, hu, hr⟩ := hc.cell l row j y hl hj
                refine ⟨uu, ?_, RD.evo (w := w) (w' := w.drew) (fun _ h => h) (fun _ _ => rfl) hr⟩
                have hlt := (List.getElem?_eq_some_iff.1 hu).1
                rw [get3 (by simp; exact hlt)]
                simpa using hu)
            exact ⟨_, _, _, hrun, hs.drew.evo e1 e2 rfl, e3⟩
      · -- onto a row of the walk's own
        rename_i id off len
        split at h
        · rename_i k' rows hH
          simp only [Option.some.injEq, Prod.mk.injEq] at h
          obtain ⟨rfl, rfl, rfl⟩ := h
          obtain ⟨⟨h2, hzl, rfl, rfl, hkp, hb, h63⟩, hob⟩ := hob
          obtain ⟨cs, hc⟩ := srcQ_sound (P := P) hsrc hob hs.rel.hr hs.rel.lt hsr
          have hz2 : z.cells.size = i.size := by simpa using hzl
          -- the row behind it
          have hrows : ∀ (rows : List (List D)), (∀ (l : Nat) (row : List D), rows[l]? = some row → row.length = i.size ∧ row.all D.leaf = true) → len ≤ rows.length →
              (∀ (l : Nat) (row : List D), (rows.take len ++ ys)[l]? = some row → row.length = i.size ∧ row.all D.leaf = true) ∧ (rows.take len ++ ys).length = len + ys.length := by
            intro rows h3 hlr
            refine ⟨fun l row hl => ?_, by simp; omega⟩
            rw [List.getElem?_append] at hl
            split at hl
            · rw [List.getElem?_take] at hl
              split at hl
              · exact h3 _ _ hl
              · cases hl
            · exact hc.row _ _ hl
          have grow : ∀ (os : List Value), os.length = len * i.size → len ≤ rows.length → (∀ (l : Nat) (row : List D), rows[l]? = some row → row.length = i.size ∧ row.all D.leaf = true) →
              (∀ (l : Nat) (row : List D) (j : Nat) (y : D), l < len → rows[l]? = some row → row[j]? = some y → ∃ v, os[l * i.size + j]? = some v ∧ RD F w y v) →
              ∀ (en : En), E[id]? = some en → ∀ cap, len + ys.length ≤ cap → ∀ nc, cap ≤ nc →
              Sim B { tm := tmScr id s.tm, heap := (heapScr id s.heap).set id (.data i.size (rows.take len ++ ys)) } a (w.drew.alloc (.cells (os.toArray ++ cs.toArray ++ Builtin.zeroCells z.cells (cap - (len + ys.length))) e))
                (E.set id ⟨some w.heap.size, i.size, len + ys.length⟩) F ∧
              VR (E.set id ⟨some w.heap.size, i.size, len + ys.length⟩) F (w.drew.alloc (.cells (os.toArray ++ cs.toArray ++ Builtin.zeroCells z.cells (cap - (len + ys.length))) e)) (.ref id 0 (len + ys.length)) (.slice (some ⟨w.heap.size, 0, none⟩) (len + ys.length) cap) := by
            intro os hos hlr h3 hcell en hE cap hcap nc _
            obtain ⟨g1, g2⟩ := hrows rows h3 hlr
            have hil : id < E.length := (List.getElem?_eq_some_iff.1 hE).1
            have hsize : (os.toArray ++ cs.toArray ++ Builtin.zeroCells z.cells (cap - (len + ys.length))).size = cap * i.size := by
              simp only [Array.size_append, List.size_toArray, size_zeroCells, hc.size, hos, hz2, ← Nat.add_mul]
              congr 1
              omega
            have hsame : ∀ b, b < w.heap.size → (w.drew.alloc (.cells (os.toArray ++ cs.toArray ++ Builtin.zeroCells z.cells (cap - (len + ys.length))) e)).heap[b]? = w.heap[b]? := fun b hb => Below.heap_alloc w.drew _ b hb
            refine ⟨rebind hs hE hH rfl hkp rfl rfl ⟨rfl, by first | exact Nat.le_refl _ | exact Nat.le_succ _ | simp⟩ (by simp) (fun b hb => hsame b (hs.rel.lt b hb)) (fun b h1 _ => hsame b (Nat.lt_of_lt_of_le h1 hs.rel.size)) (fun c hc => by simp at hc; subst hc; exact .inl hs.rel.size) (fun j ej bj c hj h4 h5 h6 h7 => ?_) (fun b n hb => Sz.alloc (w := w.drew) _ hb) (fun c hc => ?_) ?_, ?_⟩
            · have := (hs.rel.hr.free j c ej bj h4 h7 h5 h6).1
              exact ⟨hsame c this, fun h => by simp at h; omega⟩
            · simp at hc
              subst hc
              exact ⟨by simp, fun h => by have := hs.rel.lt _ h; omega⟩
            · refine ⟨rfl, g2.symm, g1, .inr ⟨w.heap.size, _, e, rfl, heap_alloc_new w.drew _, ?_, fun l row j y hl hj => ?_⟩⟩
              · rw [hsize, g2]
                exact Nat.mul_le_mul_right _ hcap
              · have hjk := (List.getElem?_eq_some_iff.1 hj).1
                have hrl := (g1 l row hl).1
                rw [List.getElem?_append] at hl
                split at hl
                · rename_i hll
                  have hll' : l < len := by simp at hll; omega
                  rw [List.getElem?_take_of_lt hll'] at hl
                  obtain ⟨uu, hu, hr⟩ := hcell l row j y hll' hl hj
                  refine ⟨uu, ?_, hr.evo (fun _ h => h) (fun b hb => hsame b (hs.rel.lt b hb))⟩
                  have := lt_mul_of (n := len) (m := 1) (k := i.size) (off := j) (row := l) hll' (by omega)
                  rw [get3 (by simp; omega)]
                  simp only [List.append_toArray, List.getElem?_toArray]
                  rw [List.getElem?_append_left (by omega)]
                  exact hu
                · rename_i hll
                  simp only [List.length_take] at hl hll
                  rw [show min len rows.length = len by omega] at hl hll
                  obtain ⟨uu, hu, hr⟩ := hc.cell _ row j y hl hj
                  refine ⟨uu, ?_, hr.evo (fun _ h => h) (fun b hb => hsame b (hs.rel.lt b hb))⟩
                  have hlt := (List.getElem?_eq_some_iff.1 hu).1
                  have e1 : l * i.size = len * i.size + (l - len) * i.size := by rw [← Nat.add_mul]; congr 1; omega
                  rw [get3 (by simp; omega)]
                  simp only [List.append_toArray, List.getElem?_toArray]
                  rw [List.getElem?_append_right (by omega), show l * i.size + j - os.length = (l - len) * i.size + j by omega]
                  exact hu
            · have hEs : (E.set id ⟨some w.heap.size, i.size, len + ys.length⟩)[id]? = some ⟨some w.heap.size, i.size, len + ys.length⟩ := List.getElem?_set_self hil
              exact .ref id 0 _ w.heap.size i.size _ _ cap (cap * i.size) hEs (by omega) (fun _ => by simp) hcap ⟨_, e, heap_alloc_new w.drew _, hsize⟩ (by simp)
          cases hd with
          | ref _ _ _ b k2 m ad cap n hE hm ha hl hbz hcp =>
            obtain ⟨g1, g2, g3, g4⟩ := hs.rel.hr.blk _ _ _ hE hH
            dsimp only at g1 g2
            subst g1 g2
            rcases g4 with ⟨g4, _⟩ | ⟨b', cur, tt, g4, hw, hsz, hcell⟩
            · cases g4
            simp only [Option.some.injEq] at g4
            subst g4
            have had := ha (.inr rfl)
            subst had
            have hcur : n = cur.size := by
              obtain ⟨c0, t0, q1, q2⟩ := hbz
              rw [hw] at q1
              cases q1
              exact q2.symm
            subst hcur
            simp only [Nat.zero_add] at hm hcp
            obtain ⟨g5, g6⟩ := hrows rows g3 hm
            by_cases hroom : len + ys.length ≤ cap
            · -- there is room
              have hcap2 : (len + ys.length) * i.size ≤ cur.size := Nat.le_trans (Nat.mul_le_mul_right _ hroom) hcp
              have hfit : len * i.size + cs.length ≤ cur.size := by rw [hc.size, ← Nat.add_mul]; exact hcap2
              have hst := run_storeCells_at (P := P) b (0 * i.size + len * i.size) tt cs 0 cur w hw (by omega) hc.one
              simp only [Nat.zero_mul, Nat.zero_add, Nat.add_zero, List.append_assoc] at hst
              have hset : (cur.toList.take (len * i.size) ++ (cs ++ cur.toList.drop (len * i.size + cs.length))) = setL cur.toList (len * i.size) cs := rfl
              rw [hset] at hst
              have hrun := run_append_in (ty := ty) ht hi h2 (some ⟨b, 0, none⟩) len cap ys.length u cs.toArray _ hc.len (hc.run w (Keep.refl w)) hroom (by
                show (storeCells ((⟨b, 0, none⟩ : Addr).add (len * i.size)) cs).run P w = _
                rw [Addr.add_mid, Nat.zero_add]; exact hst)
              have hss : (setL cur.toList (len * i.size) cs).toArray.size = cur.size := by rw [List.size_toArray, setL_len _ _ _ (by simp; omega), Array.length_toList]
              obtain ⟨hbl, hbF⟩ := hs.rel.hr.free id b _ _ hE rfl hH rfl
              have hil : id < E.length := (List.getElem?_eq_some_iff.1 hE).1
              have hF : ∀ c, F c → (w.setRow b (setL cur.toList (len * i.size) cs).toArray).heap[c]? = w.heap[c]? := fun c hc => heap_setRow_other w b c _ (fun q => hbF (q ▸ hc))
              refine ⟨.slice (some ⟨b, 0, none⟩) (len + ys.length) cap, w.setRow b (setL cur.toList (len * i.size) cs).toArray, E.set id ⟨some b, i.size, len + ys.length⟩, by simpa using hrun, rebind hs hE hH rfl hkp rfl rfl ⟨rfl, by first | exact Nat.le_refl _ | exact Nat.le_succ _ | simp⟩ (by simp) hF (fun c h1 h2 => heap_setRow_other w b c _ (fun q => (hs.rel.src id b _ _ hE hH rfl rfl).elim (fun h => by omega) (fun h => h2 (q ▸ h)))) (fun c hc => by simp at hc; subst hc; exact hs.rel.src id b _ _ hE hH rfl rfl) (fun j ej bj c hj h4 h5 h6 h7 => ?_) (fun b' n' hb' => hb'.setRow hw hss) (fun c hc => ?_) ?_, ?_⟩
              · have hne : c ≠ b := fun q => hj (hs.rel.hr.inj j id c ej _ bj _ h4 hE h7 (by simp [q]) h5 hH h6 rfl)
                exact ⟨heap_setRow_other w b c _ hne, fun h => by simp at h; exact hne h.symm⟩
              · simp at hc
                subst hc
                exact ⟨by simpa using hbl, hbF⟩
              · refine ⟨rfl, g6.symm, g5, .inr ⟨b, _, tt, rfl, setRow_heap w b cur _ tt _ hw, ?_, fun l row j y hl hj => ?_⟩⟩
                · rw [hss, g6]; exact hcap2
                · have hjk := (List.getElem?_eq_some_iff.1 hj).1
                  have hrl := (g5 l row hl).1
                  simp only [List.getElem?_toArray]
                  rw [setL_get _ _ _ (by simp; omega)]
                  rw [List.getElem?_append] at hl
                  split at hl
                  · rename_i hll
                    have hll' : l < len := by simp at hll; omega
                    rw [List.getElem?_take_of_lt hll'] at hl
                    obtain ⟨uu, hu, hr⟩ := hcell l row j y hl hj
                    have := lt_mul_of (n := len) (m := 1) (k := i.size) (off := j) (row := l) hll' (by omega)
                    rw [if_neg (by omega)]
                    exact ⟨uu, by simpa using hu, hr.evo (fun _ h => h) hF⟩
                  · rename_i hll
                    simp only [List.length_take] at hl hll
                    rw [show min len rows.length = len by omega] at hl hll
                    obtain ⟨uu, hu, hr⟩ := hc.cell _ row j y hl hj
                    have hlt := (List.getElem?_eq_some_iff.1 hu).1
                    have e1 : l * i.size = len * i.size + (l - len) * i.size := by rw [← Nat.add_mul]; congr 1; omega
                    rw [if_pos (by omega), show l * i.size + j - len * i.size = (l - len) * i.size + j by omega]
                    exact ⟨uu, hu, hr.evo (fun _ h => h) hF⟩
              · have hEs : (E.set id ⟨some b, i.size, len + ys.length⟩)[id]? = some ⟨some b, i.size, len + ys.length⟩ := List.getElem?_set_self hil
                exact .ref id 0 _ b i.size _ _ cap cur.size hEs (by omega) (fun _ => by simp) hroom (Sz.setRow hw hss (⟨cur, tt, hw, rfl⟩ : Sz w b cur.size)) (by simpa using hcp)
            · -- a new row
              have hos : ((cur.toList.take (len * i.size))).length = len * i.size := by
                have : len * i.size ≤ cur.size := Nat.le_trans (Nat.mul_le_mul_right _ hl) hcp
                simp; omega
              have hfo : (Builtin.firstCells i.size len (.slice (some ⟨b, 0 * i.size, none⟩) len cap)).run P w.drew = .ok (cur.toList.take (len * i.size)).toArray w.drew := by
                have := run_loadCells_list (P := P) w.drew ⟨b, 0, none⟩ (cur.toList.take (len * i.size)) (fun j u hj => by
                  rw [List.getElem?_take] at hj
                  split at hj
                  · rw [Addr.add_mid, Nat.zero_add, cell_of_row w.drew b j cur tt (0, 0) hw]
                    simpa using hj
                  · cases hj)
                rw [hos] at this
                simp only [Nat.zero_mul]
                simp [Builtin.firstCells, this]
              have hrun := run_append_out (ty := ty) ht hi hz' h2 _ len cap ys.length u _ cs.toArray hc.len (hc.run _ (fun _ _ => rfl)) hfo (by omega) hb h63
              obtain ⟨q1, q2⟩ := grow _ hos hm g3 (fun l row j y hl hrow hj => by
                obtain ⟨uu, hu, hr⟩ := hcell l row j y hrow hj
                have hjk := (List.getElem?_eq_some_iff.1 hj).1
                have := (g3 l row hrow).1
                have := lt_mul_of (n := len) (m := 1) (k := i.size) (off := j) (row := l) hl (by omega)
                exact ⟨uu, by rw [List.getElem?_take_of_lt (by omega)]; simpa using hu, hr⟩) _ hE _ (le_grownCap w (len + ys.length) cap e) _ (Nat.le_refl _)
              exact ⟨_, _, _, hrun, q1, q2⟩
          | refv _ k2 m ad hE =>
            obtain ⟨g1, g2, g3, g4⟩ := hs.rel.hr.blk _ _ _ hE hH
            dsimp only at g1 g2
            subst g1
            have hrn : rows = [] := by
              rcases g4 with ⟨_, g4⟩ | ⟨b', cur, tt, g4, _⟩
              · exact g4
              · cases g4
            subst hrn
            by_cases h0 : ys.length = 0
            · obtain rfl := List.length_eq_zero_iff.1 h0
              have hcs : cs = [] := List.length_eq_zero_iff.1 (by simpa using hc.size)
              subst hcs
              have hil : id < E.length := (List.getElem?_eq_some_iff.1 hE).1
              refine ⟨_, w, E.set id ⟨none, i.size, 0⟩, run_append_in (ty := ty) ht hi h2 ad 0 0 0 u #[] w hc.len (hc.run w (Keep.refl w)) (Nat.le_refl _) (by cases ad <;> simp [storeCells]), ?_, ?_⟩
              · exact rebind hs hE hH rfl hkp rfl rfl ⟨rfl, by first | exact Nat.le_refl _ | exact Nat.le_succ _ | simp⟩ (Nat.le_refl _) (fun _ _ => rfl) (fun _ _ _ => rfl) (fun c hc => by simp at hc) (fun j ej bj c hj h4 h5 h6 h7 => ⟨rfl, by simp⟩) (fun _ _ h => h) (fun c hc => by simp at hc) ⟨rfl, by simp, by simp, .inl ⟨rfl, by simp⟩⟩
              · exact .refv id i.size 0 ad (List.getElem?_set_self hil)
            · have hrun := run_append_out (ty := ty) ht hi hz' h2 ad 0 0 ys.length u #[] cs.toArray hc.len (hc.run _ (fun _ _ => rfl)) (by cases ad <;> simp [Builtin.firstCells, run_load0]) (by omega) (by simpa using hb) (by omega)
              obtain ⟨q1, q2⟩ := grow [] (by simp) (by simp) (by simp) (by simp) _ hE _ (le_grownCap w (0 + ys.length) 0 e) _ (Nat.le_refl _)
              exact ⟨_, _, _, hrun, q1, q2⟩
        · cases h
      · cases h
    · cases h
  · cases h

end Go.Aw
