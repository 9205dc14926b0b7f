/-
  append: onto nothing, onto a row of the walk's own. Over any program; no condition.
-/
import Derived.Test.YtmmnjelmahcbaaaAwJ
import Derived.Laws.Append
namespace Go.Aw
set_option linter.unusedSimpArgs false
set_option linter.unusedVariables false
open Go.RowKit

def scr (i : Nat) (x : V) : V := if x.has i then .junk else x
def tmScr (i : Nat) : List (Nat × V) → List (Nat × V)
  | [] => []
  | (j, x) :: r => (j, scr i x) :: tmScr i r
def scrL (i : Nat) : List V → List V
  | [] => []
  | x :: r => scr i x :: scrL i r
def Blk.scr (i : Nat) : Blk → Blk
  | .cells xs => .cells (scrL i xs)
  | .vrs k rs => .vrs k (rs.map fun r => scrL i r)
  | .mp es => .mp (es.map fun p => (Aw.scr i p.1, Aw.scr i p.2))
  | .it x seen n => .it (Aw.scr i x) seen n
  | b => b
def heapScr (i : Nat) : List Blk → List Blk
  | [] => []
  | b :: r => b.scr i :: heapScr i r

theorem tget_scr (i j : Nat) : ∀ l : List (Nat × V), tget (tmScr i l) j = (tget l j).map (scr i)
  | [] => rfl
  | (k, x) :: r => by
    simp only [tmScr, tget]
    split
    · rfl
    · exact tget_scr i j r
theorem scrL_eq (i : Nat) : ∀ xs : List V, scrL i xs = xs.map (scr i)
  | [] => rfl
  | x :: r => by simp [scrL, scrL_eq i r]
theorem heapScr_eq (i : Nat) : ∀ l, heapScr i l = l.map (Blk.scr i)
  | [] => rfl
  | b :: r => by simp [heapScr, heapScr_eq i r]
theorem Blk.scr_map1 (i : Nat) (b : Blk) : b.scr i = b.map1 (Go.Aw.scr i) := by
  cases b <;> simp [Blk.scr, Blk.map1, scrL_eq]
theorem Blk.live_scr (i : Nat) (b : Blk) : (b.scr i).live = b.live := by cases b <;> rfl

theorem scr_VR {E E' : Env} {F F' : Nat → Prop} {w w' : World} {i : Nat} (he : Evo E F w E' F' w' (fun j => j ≠ i)) {x : V} {v : Value} (hx : VR E F w x v) : VR E' F' w' (scr i x) v := by
  unfold scr
  split
  · exact .junk v
  · rename_i h
    exact hx.evo he (fun j hj e => h (e ▸ hj))

/-- An own block gets another place; what spoke of it is forgotten. -/
theorem rebind {B : Base} {s : St} {a : Act} {w w' : World} {E : Env} {F : Nat → Prop} (hs : Sim B s a w E F) {i : Nat} {e e' : En} {blk blk' : Blk}
    (hi : E[i]? = some e) (hb : s.heap[i]? = some blk) (hlv : blk.live = true) (hk : i ∉ B.keep)
    (hos : w'.os = w.os) (htp : w'.tape = w.tape) (hout : Later w w') (hsz : w.heap.size ≤ w'.heap.size) (hF : ∀ b, F b → w'.heap[b]? = w.heap[b]?)
    (hG : ∀ b, b < B.w0.heap.size → ¬ B.own b → w'.heap[b]? = w.heap[b]?) (hsr : ∀ c, e'.blk = some c → B.w0.heap.size ≤ c ∨ B.own c)
    (hoth : ∀ (j : Nat) (ej : En) (bj : Blk) (c : Nat), j ≠ i → E[j]? = some ej → s.heap[j]? = some bj → bj.live = true → ej.blk = some c → w'.heap[c]? = w.heap[c]? ∧ e'.blk ≠ some c)
    (hszs : ∀ b n, Sz w b n → Sz w' b n) (hnew : ∀ c, e'.blk = some c → c < w'.heap.size ∧ ¬ F c) (hbr : BR (E.set i e') F w' e' blk') :
    Sim B { tm := tmScr i s.tm, heap := (heapScr i s.heap).set i blk' } a w' (E.set i e') F := by
  have hil : i < E.length := (List.getElem?_eq_some_iff.1 hi).1
  have evo : Evo E F w (E.set i e') F w' (fun j => j ≠ i) := ⟨fun _ h => h, hF, fun j ej hj h => by rw [List.getElem?_set_ne (Ne.symm hj)]; exact h, hszs⟩
  have hr := hs.rel
  have hget : ∀ (j : Nat) (ej : En) (bj : Blk), (E.set i e')[j]? = some ej → ((heapScr i s.heap).set i blk')[j]? = some bj →
      (j = i ∧ ej = e' ∧ bj = blk') ∨ (j ≠ i ∧ E[j]? = some ej ∧ ∃ b0, s.heap[j]? = some b0 ∧ bj = b0.scr i) := fun j ej bj h1 h2 => by
    by_cases hj : j = i
    · subst hj
      rw [List.getElem?_set_self hil] at h1
      rw [List.getElem?_set_self (by rw [heapScr_eq, List.length_map, ← hr.hr.len]; exact hil)] at h2
      simp at h1 h2
      exact .inl ⟨rfl, h1.symm, h2.symm⟩
    · rw [List.getElem?_set_ne (Ne.symm hj)] at h1 h2
      simp only [heapScr_eq, List.getElem?_map, Option.map_eq_some_iff] at h2
      obtain ⟨b0, h0, rfl⟩ := h2
      exact .inr ⟨hj, h1, b0, h0, rfl⟩
  refine ⟨⟨hos.trans hr.os, htp.trans hr.tape, hout.trans hr.output, Nat.le_trans hr.size hsz, hr.F0, hr.only, fun b h1 h2 => (hG b h1 h2).trans (hr.same b h1 h2), fun b hb => Nat.lt_of_lt_of_le (hr.lt b hb) hsz, ⟨by simp [heapScr_eq, hr.hr.len], ?_, ?_, ?_⟩, ?_, ?_, fun b n h => hszs b n (hr.sz b n h)⟩, hs.defers, ?_⟩
  · intro j ej bj h1 h2
    rcases hget j ej bj h1 h2 with ⟨rfl, rfl, rfl⟩ | ⟨hj, h1, b0, h0, rfl⟩
    · exact hbr
    · have h3 := hr.hr.blk j ej b0 h1 h0
      cases hlb : b0.live with
      | false => cases b0 <;> simp_all [Blk.live]; trivial
      | true =>
        have := BR.to (f := scr i) (E' := E.set i e') (F' := F) (w' := w') h3 (fun x v hx => hx.evo (fun _ h => h) hF) (fun x v _ hx => scr_VR evo hx) fun c hc => (hoth j ej _ c hj h1 h0 hlb hc).1
        rwa [← Blk.scr_map1] at this
  · intro j c ej bj h1 hc h2 hlj
    rcases hget j ej bj h1 h2 with ⟨rfl, rfl, rfl⟩ | ⟨hj, h1, b0, h0, rfl⟩
    · exact hnew c hc
    · rw [Blk.live_scr] at hlj
      obtain ⟨q1, q2⟩ := hr.hr.free j c ej b0 h1 hc h0 hlj
      exact ⟨Nat.lt_of_lt_of_le q1 hsz, q2⟩
  · intro j l c ej el bj bl h1 h2 h3 h4 h5 h6 h7 h8
    rcases hget j ej bj h1 h5 with ⟨g1, g2, g3⟩ | ⟨g1, g2, b0, g3, g4⟩ <;> rcases hget l el bl h2 h6 with ⟨f1, f2, f3⟩ | ⟨f1, f2, b1, f3, f4⟩
    · rw [g1, f1]
    · rw [f4, Blk.live_scr] at h8
      rw [g2] at h3
      exact absurd h3 (hoth l el b1 c f1 f2 f3 h8 h4).2
    · rw [g4, Blk.live_scr] at h7
      rw [f2] at h4
      exact absurd h4 (hoth j ej b0 c g1 g2 g3 h7 h3).2
    · rw [g4, Blk.live_scr] at h7
      rw [f4, Blk.live_scr] at h8
      exact hr.hr.inj j l c ej el b0 b1 g2 f2 h3 h4 g3 f3 h7 h8
  · intro j c ej bj h1 h2 hlj hc
    rcases hget j ej bj h1 h2 with ⟨rfl, rfl, rfl⟩ | ⟨hj, h1, b0, h0, rfl⟩
    · exact hsr c hc
    · rw [Blk.live_scr] at hlj
      exact hr.src j c ej b0 h1 h0 hlj hc
  · intro j hj
    obtain ⟨ej, h1, h2⟩ := hr.keep j hj
    exact ⟨ej, by rw [List.getElem?_set_ne (fun (q : i = j) => hk (q ▸ hj))]; exact h1, h2⟩
  · intro j x hx
    rw [tget_scr] at hx
    simp only [Option.map_eq_some_iff] at hx
    obtain ⟨y, hy, rfl⟩ := hx
    obtain ⟨v, hv, hvr⟩ := hs.tm j y hy
    exact ⟨v, hv, scr_VR evo hvr⟩

theorem Rel.drew {B : Base} {s : St} {E : Env} {F : Nat → Prop} {w : World} (h : Rel B s E F w) : Rel B s E F w.drew := by
  have evo : Evo E F w E F w.drew (fun _ => True) := ⟨fun _ h => h, fun _ _ => rfl, fun _ _ _ h => h, fun _ _ h => h⟩
  exact ⟨h.os, h.tape, ⟨h.output.output, Nat.le_succ_of_le h.output.drawn⟩, h.size, h.F0, h.only, h.same, h.lt, ⟨h.hr.len, fun j e b h1 h2 => (h.hr.blk j e b h1 h2).evo evo (fun _ _ => trivial) (fun _ _ => rfl), h.hr.free, h.hr.inj⟩, h.src, h.keep, h.sz⟩

theorem Sim.drew {B : Base} {s : St} {a : Act} {E : Env} {F : Nat → Prop} {w : World} (h : Sim B s a w E F) : Sim B s a w.drew E F :=
  h.evo ⟨fun _ h => h, fun _ _ => rfl, fun _ _ _ h => h, fun _ _ h => h⟩ h.rel.drew rfl

/-- The elements that are appended: what it asks. -/
def srcQ (H : List Blk) (k : Nat) : V → Option (Prop × List (List D))
  | .ref id off len =>
    match H[id]? with
    | some (.data k' rows) => some (k' = k, (rows.drop off).take len)
    | _ => none
  | .d (.sl rows) => some (∀ row ∈ rows, row.length = k ∧ row.all D.leaf = true, rows)
  | .nil => some (True, [])
  | .d (.str b) => some (k = 1, b.data.toList.map fun c => [.int .u8 (c.toNat : Int)])
  | _ => none

structure Src (P : Program) (F : Nat → Prop) (w : World) (k : Nat) (ys : List (List D)) (v : Value) (cs : List Value) : Prop where
  size : cs.length = ys.length * k
  len : ∀ w', (Builtin.lenOf v).run P w' = .ok ys.length w'
  row : ∀ (i : Nat) (row : List D), ys[i]? = some row → row.length = k ∧ row.all D.leaf = true
  cell : ∀ (i : Nat) (row : List D) (j : Nat) (x : D), ys[i]? = some row → row[j]? = some x → ∃ u, cs[i * k + j]? = some u ∧ RD F w x u
  run : ∀ w', Keep w w' → (Builtin.firstCells k ys.length v).run P w' = .ok cs.toArray w'

theorem Src.one {P : Program} {F : Nat → Prop} {w : World} {k : Nat} {ys : List (List D)} {v : Value} {cs : List Value} (h : Src P F w k ys v cs) : ∀ u ∈ cs, u.oneCell' = true := by
  intro u hu
  obtain ⟨j, hj, rfl⟩ := List.getElem_of_mem hu
  have hs := h.size
  by_cases hk : k = 0
  · subst hk; simp at hs; subst hs; simp at hj
  have hd : j / k < ys.length := (Nat.div_lt_iff_lt_mul (by omega)).2 (by omega)
  have hm : j % k < k := Nat.mod_lt _ (by omega)
  have hrow : ys[j / k]? = some ys[j / k] := List.getElem?_eq_getElem hd
  obtain ⟨hl, hlf⟩ := h.row _ _ hrow
  have hx : ys[j / k][j % k]? = some (ys[j / k][j % k]'(by omega)) := List.getElem?_eq_getElem _
  obtain ⟨u, hu', hr⟩ := h.cell _ _ _ _ hrow hx
  have e : j / k * k + j % k = j := by rw [Nat.mul_comm]; exact Nat.div_add_mod j k
  rw [e, List.getElem?_eq_getElem hj] at hu'
  cases hu'
  exact hr.one (List.all_eq_true.1 hlf _ (List.mem_of_getElem? hx))

theorem run_load0 {P : Program} (a : Addr) (w : World) : (loadCells a 0).run P w = .ok #[] w := rfl

theorem src_nil {P : Program} {F : Nat → Prop} {w : World} (k : Nat) (a : Option Addr) (c : Nat) : Src P F w k [] (.slice a 0 c) [] :=
  ⟨by simp, fun w' => by simp [Builtin.lenOf], by simp, by simp, fun w' _ => by cases a <;> simp [Builtin.firstCells, run_load0]⟩

theorem srcQ_sound {P : Program} {E : Env} {F : Nat → Prop} {w : World} {H : List Blk} {k : Nat} {x : V} {ob : Prop} {ys : List (List D)} {v : Value} (h : srcQ H k x = some (ob, ys)) (hob : ob)
    (hr : HR E F w H) (hlt : ∀ b, F b → b < w.heap.size) (hx : VR E F w x v) : ∃ cs, Src P F w k ys v cs := by
  cases hx with
  | ref id off len b k' m a cap n hE hm ha hl hb hc =>
    simp only [srcQ] at h
    split at h
    · rename_i k2 rows hH
      simp only [Option.some.injEq, Prod.mk.injEq] at h
      obtain ⟨rfl, rfl⟩ := h
      subst hob
      obtain ⟨h1, h2, h3, h4⟩ := hr.blk _ _ _ hE hH
      dsimp only at h1 h2
      subst h1 h2
      rcases h4 with ⟨h4, _⟩ | ⟨b', cs, t, h4, hw, hsz, hcell⟩
      · cases h4
      simp only [Option.some.injEq] at h4
      subst h4
      have hlen : ((rows.drop off).take len).length = len := by rw [List.length_take, List.length_drop]; omega
      by_cases h0 : len = 0
      · subst h0
        rw [List.take_zero]
        exact ⟨[], src_nil _ _ _⟩
      have haa := ha (.inl (by omega))
      subst haa
      have hoff : (off + len) * k' ≤ cs.size := Nat.le_trans (Nat.mul_le_mul_right _ hm) hsz
      have hget : ∀ (j : Nat) (row : List D), ((rows.drop off).take len)[j]? = some row → j < len ∧ rows[off + j]? = some row := fun j row hj => by
        rw [List.getElem?_take] at hj
        split at hj
        · rw [List.getElem?_drop] at hj; exact ⟨by assumption, hj⟩
        · cases hj
      have hcl : ((cs.toList.drop (off * k')).take (len * k')).length = len * k' := by
        rw [Nat.add_mul] at hoff
        simp; omega
      refine ⟨(cs.toList.drop (off * k')).take (len * k'), by rw [hcl, hlen], fun w' => by simp [Builtin.lenOf, hlen], fun i row hi => h3 _ _ (hget i row hi).2, fun i row j x hi hj => ?_, fun w' hk' => ?_⟩
      · obtain ⟨hil, hi'⟩ := hget i row hi
        obtain ⟨u, hu, hrd⟩ := hcell _ _ j x hi' hj
        have hjk := (List.getElem?_eq_some_iff.1 hj).1
        have := (h3 _ _ hi').1
        have hlm := lt_mul_of (n := len) (m := 1) (k := k') (off := j) (row := i) hil (by omega)
        refine ⟨u, ?_, hrd⟩
        rw [slice_get (by omega), show off * k' + (i * k' + j) = (off + i) * k' + j by rw [Nat.add_mul]; omega]
        exact hu
      · rw [hlen]
        have := run_loadCells_list (P := P) w' ⟨b, off * k', none⟩ ((cs.toList.drop (off * k')).take (len * k')) (fun j u hj => by
          rcases Nat.lt_or_ge j (len * k') with hjl | hjl
          · rw [slice_get hjl] at hj
            rw [Addr.add_mid, cell_keep hk' hw]
            exact hj
          · rw [List.getElem?_take_eq_none hjl] at hj; cases hj)
        rw [hcl] at this
        simp [Builtin.firstCells, this]
    · cases h
  | refv id k' m a hE =>
    simp only [srcQ] at h
    split at h
    · simp only [Option.some.injEq, Prod.mk.injEq] at h
      obtain ⟨rfl, rfl⟩ := h
      rw [List.take_zero]
      exact ⟨[], src_nil _ _ _⟩
    · cases h
  | nil a =>
    simp only [srcQ, Option.some.injEq, Prod.mk.injEq] at h
    obtain ⟨_, rfl⟩ := h
    exact ⟨[], src_nil _ _ _⟩
  | d x v hd =>
    cases hd with
    | sl0 a cap =>
      simp only [srcQ, Option.some.injEq, Prod.mk.injEq] at h
      obtain ⟨_, rfl⟩ := h
      exact ⟨[], src_nil _ _ _⟩
    | sl b off cap k' rows c hn hF hkk hc hrr =>
      simp only [srcQ, Option.some.injEq, Prod.mk.injEq] at h
      obtain ⟨rfl, rfl⟩ := h
      by_cases h0 : rows = []
      · subst h0; exact ⟨[], src_nil _ _ _⟩
      obtain ⟨r0, hr0⟩ := List.exists_mem_of_ne_nil _ h0
      have hkk' : k' = k := by
        obtain ⟨j, hj, e⟩ := List.getElem_of_mem hr0
        have h5 := hkk j _ (List.getElem?_eq_getElem hj)
        have h6 := (hob _ hr0).1
        rw [e] at h5
        omega
      subst hkk'
      refine ⟨(List.range (rows.length * k')).map fun m => c (m / k') (m % k'), by simp, fun w' => by simp [Builtin.lenOf], fun i row hi => hob _ (List.mem_of_getElem? hi), fun i row j x hi hj => ?_, fun w' hk'' => ?_⟩
      · have hil := (List.getElem?_eq_some_iff.1 hi).1
        have hjk := (List.getElem?_eq_some_iff.1 hj).1
        have hrl := hkk _ _ hi
        have hlm := lt_mul_of (n := rows.length) (m := 1) (k := k') (off := j) (row := i) hil (by omega)
        refine ⟨c i j, ?_, hrr i row j x hi hj⟩
        rw [List.getElem?_map, List.getElem?_range (by omega)]
        have e1 : (i * k' + j) / k' = i := by rw [Nat.mul_comm, Nat.mul_add_div (by omega), Nat.div_eq_of_lt (by omega)]; rfl
        have e2 : (i * k' + j) % k' = j := by rw [Nat.mul_comm, Nat.mul_add_mod]; exact Nat.mod_eq_of_lt (by omega)
        simp [e1, e2]
      · have := run_loadCells_list (P := P) w' ⟨b, off, none⟩ ((List.range (rows.length * k')).map fun m => c (m / k') (m % k')) (fun j u hj => by
          rw [List.getElem?_map] at hj
          rcases Nat.lt_or_ge j (rows.length * k') with hjl | hjl
          · rw [List.getElem?_range hjl] at hj
            simp at hj
            subst hj
            have hk0 : 0 < k' := by
              rcases Nat.eq_zero_or_pos k' with h | h
              · subst h; simp at hjl
              · exact h
            have h5 := hc (j / k') (j % k') ((Nat.div_lt_iff_lt_mul hk0).2 hjl) (Nat.mod_lt _ hk0)
            have e : j / k' * k' + j % k' = j := by rw [Nat.mul_comm]; exact Nat.div_add_mod j k'
            rw [e] at h5
            rw [Addr.add_mid, World.cell?_of_block (w := w) (hk'' b (hlt b hF))]
            exact h5
          · rw [List.getElem?_eq_none (by simpa using hjl)] at hj; cases hj)
        simp only [List.length_map, List.length_range] at this
        simp [Builtin.firstCells, this]
    | str s =>
      simp only [srcQ, Option.some.injEq, Prod.mk.injEq] at h
      obtain ⟨rfl, rfl⟩ := h
      subst hob
      refine ⟨s.data.toList.map fun c => .int .u8 (c.toNat : Int), by simp, fun w' => by simp [Builtin.lenOf], fun i row hi => ?_, fun i row j x hi hj => ?_, fun w' _ => ?_⟩
      · simp only [List.getElem?_map, Option.map_eq_some_iff] at hi
        obtain ⟨c, _, rfl⟩ := hi
        exact ⟨rfl, rfl⟩
      · simp only [List.getElem?_map, Option.map_eq_some_iff] at hi
        obtain ⟨c, hc, rfl⟩ := hi
        cases j with
        | zero =>
          simp at hj
          subst hj
          exact ⟨_, by simp only [Nat.mul_one, Nat.add_zero, List.getElem?_map, hc]; rfl, .int _ _⟩
        | succ j => simp at hj
      · simp only [Builtin.firstCells, List.length_map, Array.length_toList, Sem.run_pure]
        congr 1
        have e : s.extract 0 s.data.size = s := by
          exact ByteArray.extract_zero_size (b := s)
        rw [e]
        apply Array.ext'
        simp
    | _ => simp [srcQ] at h
  | _ => simp [srcQ] at h

end Go.Aw
