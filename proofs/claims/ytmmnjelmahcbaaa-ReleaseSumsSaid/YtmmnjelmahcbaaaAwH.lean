/-
  Operations that make or write memory: a new variable, a store. Over any program; no condition.
-/
import Derived.Test.YtmmnjelmahcbaaaAwG
import Derived.Laws.CopyRow
namespace Go.Aw
set_option linter.unusedSimpArgs false
set_option linter.unusedVariables false
open Go.RowKit

def V.leaf : V → Bool
  | .d x => x.leaf
  | .agg _ => false
  | .tup _ => false
  | .opt _ _ => false
  | .junk => false
  | _ => true
def V.cellsV : V → List V
  | .agg xs => xs
  | x => [x]
def V.flat : V → Bool
  | .agg xs => xs.all V.leaf
  | x => x.leaf

theorem RD.one {F : Nat → Prop} {w : World} {x : D} {v : Value} (h : RD F w x v) (hl : x.leaf = true) : v.oneCell' = true := by
  cases h <;> first | rfl | cases hl

theorem VR.one {E : Env} {F : Nat → Prop} {w : World} {x : V} {v : Value} (h : VR E F w x v) (hl : x.leaf = true) : v.oneCell' = true := by
  cases h with
  | d x v h => exact h.one hl
  | _ => first | rfl | cases hl

theorem cells_one {v : Value} (h : v.oneCell' = true) : v.cells = #[v] := by
  cases v <;> first | rfl | cases h

theorem cellsV_sound {E : Env} {F : Nat → Prop} {w : World} {x : V} {v : Value} (h : VR E F w x v) (hf : x.flat = true) :
    v.cells.size = x.cellsV.length ∧ (∀ (j : Nat) (y : V), x.cellsV[j]? = some y → ∃ u, v.cells[j]? = some u ∧ VR E F w y u) ∧ ∀ u ∈ v.cells.toList, u.oneCell' = true := by
  have leafy : x.leaf = true → x.cellsV = [x] → v.cells.size = x.cellsV.length ∧ (∀ (j : Nat) (y : V), x.cellsV[j]? = some y → ∃ u, v.cells[j]? = some u ∧ VR E F w y u) ∧ ∀ u ∈ v.cells.toList, u.oneCell' = true := by
    intro hl hc
    have h1 := h.one hl
    rw [cells_one h1, hc]
    refine ⟨rfl, fun j y hj => ?_, fun u hu => ?_⟩
    · cases j with
      | zero => simp at hj; subst hj; exact ⟨v, rfl, h⟩
      | succ j => simp at hj
    · simp at hu; subst hu; exact h1
  cases h with
  | agg xs cs hs hr =>
    refine ⟨hs, fun j y hj => ?_, fun u hu => ?_⟩
    · have hj' : j < cs.size := by
        have := (List.getElem?_eq_some_iff.1 hj).1
        simp only [V.cellsV] at this
        omega
      exact ⟨cs[j], Array.getElem?_eq_getElem hj', hr j y _ hj (Array.getElem?_eq_getElem hj')⟩
    · simp only [Value.cells] at hu
      obtain ⟨j, hj, rfl⟩ := List.getElem_of_mem hu
      simp at hj
      have hx : xs[j]? = some (xs[j]'(by omega)) := List.getElem?_eq_getElem _
      have hl := List.all_eq_true.1 hf _ (List.mem_of_getElem? hx)
      exact (hr j _ _ hx (by simp [hj])).one hl
  | d x v h => exact leafy hf rfl
  | ptr => exact leafy rfl rfl
  | ref => exact leafy rfl rfl
  | refv => exact leafy rfl rfl
  | nil => exact leafy rfl rfl
  | fn => exact leafy rfl rfl
  | map => exact leafy rfl rfl
  | iface => exact leafy rfl rfl
  | tup => cases hf
  | opt => cases hf
  | junk => cases hf

theorem heap_setRow_other (w : World) (g k : Nat) (cs : Array Value) (h : k ≠ g) : (w.setRow g cs).heap[k]? = w.heap[k]? := by
  simp only [World.setRow, Array.getElem?_modify]
  rw [if_neg (Ne.symm h)]

theorem Sz.setRow {w : World} {g b n : Nat} {cs cs' : Array Value} {t : TypeId} {fr : Nat × Nat} (hw : w.heap[g]? = some (.cells cs t fr)) (hsz : cs'.size = cs.size) (h : Sz w b n) : Sz (w.setRow g cs') b n := by
  obtain ⟨c, u, hc, hn⟩ := h
  by_cases hb : b = g
  · subst hb
    rw [hw] at hc
    simp only [Option.some.injEq, Obj.cells.injEq] at hc
    obtain ⟨rfl, rfl, rfl⟩ := hc
    exact ⟨cs', t, setRow_heap w b cs cs' t _ hw, by omega⟩
  · exact ⟨c, u, (heap_setRow_other w g b cs' hb).trans hc, hn⟩

/-- An own block is written. -/
theorem upd_rel {B : Base} {s : St} {E : Env} {F : Nat → Prop} {w : World} (hr : Rel B s E F w) {i b : Nat} {e : En} {blk blk' : Blk} {cs cs' : Array Value} {t : TypeId}
    (he : E[i]? = some e) (hb : s.heap[i]? = some blk) (hl : blk.live = true) (heb : e.blk = some b) (hw : w.heap[b]? = some (.cells cs t (0, 0))) (hsz : cs'.size = cs.size)
    (hbr : BR E F (w.setRow b cs') e blk') :
    Evo E F w E F (w.setRow b cs') (fun _ => True) ∧ Rel B { s with heap := s.heap.set i blk' } E F (w.setRow b cs') := by
  obtain ⟨hbl, hbF⟩ := hr.hr.free i b e blk he heb hb hl
  have hsame : ∀ c, F c → (w.setRow b cs').heap[c]? = w.heap[c]? := fun c hc => heap_setRow_other w b c cs' (fun e => hbF (e ▸ hc))
  have evo : Evo E F w E F (w.setRow b cs') (fun _ => True) := ⟨fun _ h => h, hsame, fun _ _ _ h => h, fun c n h => h.setRow hw hsz⟩
  have hget : ∀ (j : Nat) (bj : Blk), (s.heap.set i blk')[j]? = some bj → (j = i ∧ bj = blk') ∨ (j ≠ i ∧ s.heap[j]? = some bj) := fun j bj hj => by
    rw [List.getElem?_set] at hj
    split at hj
    · split at hj
      · simp at hj; exact .inl ⟨(by assumption : i = j).symm, hj.symm⟩
      · cases hj
    · exact .inr ⟨Ne.symm (by assumption), hj⟩
  refine ⟨evo, hr.os, hr.tape, ⟨hr.output.output, hr.output.drawn⟩, by simpa using hr.size, hr.F0, hr.only, fun c h1 h2 => (heap_setRow_other w b c cs' (fun q => (hr.src i b e blk he hb hl heb).elim (fun h => by omega) (fun h => h2 (q ▸ h)))).trans (hr.same c h1 h2), by simpa using hr.lt, ⟨by simpa using hr.hr.len, ?_, ?_, ?_⟩, ?_, hr.keep, fun c n h => (hr.sz c n h).setRow hw hsz⟩
  · intro j ej bj hEj hj
    rcases hget j bj hj with ⟨rfl, rfl⟩ | ⟨hji, hj⟩
    · rw [he] at hEj
      simp only [Option.some.injEq] at hEj
      subst hEj
      exact hbr
    · cases hlj : bj.live with
      | false => cases bj <;> simp_all [Blk.live]; trivial
      | true =>
        refine (hr.hr.blk j ej bj hEj hj).evo evo (fun _ _ => trivial) fun c hc => heap_setRow_other w b c cs' fun e => ?_
        subst e
        exact hji (hr.hr.inj j i c ej _ bj blk hEj he hc heb hj hb hlj hl)
  · intro j c ej bj hEj hc hj hlj
    rw [size_setRow]
    rcases hget j bj hj with ⟨rfl, rfl⟩ | ⟨hji, hj⟩
    · rw [he] at hEj
      simp only [Option.some.injEq] at hEj
      subst hEj
      exact hr.hr.free j c _ blk he hc hb hl
    · exact hr.hr.free j c ej bj hEj hc hj hlj
  · intro j l c ej el bj bl hEj hEl hcj hcl hj hl' hlj hll
    have hb' : ∀ (j : Nat) (bj : Blk), (s.heap.set i blk')[j]? = some bj → bj.live = true → ∃ b0, s.heap[j]? = some b0 ∧ b0.live = true := fun j bj hj hlj => by
      rcases hget j bj hj with ⟨rfl, rfl⟩ | ⟨hji, hj⟩
      · exact ⟨blk, hb, hl⟩
      · exact ⟨bj, hj, hlj⟩
    obtain ⟨b0, h0, hl0⟩ := hb' j bj hj hlj
    obtain ⟨b1, h1, hl1⟩ := hb' l bl hl' hll
    exact hr.hr.inj j l c ej el b0 b1 hEj hEl hcj hcl h0 h1 hl0 hl1
  · intro j c ej bj hEj hj hlj hc
    rcases hget j bj hj with ⟨rfl, rfl⟩ | ⟨hji, hj⟩
    · exact hr.src j c ej blk hEj hb hl hc
    · exact hr.src j c ej bj hEj hj hlj hc

theorem Sz.alloc {w : World} {b n : Nat} (o : Obj) (h : Sz w b n) : Sz (w.alloc o) b n := by
  have hb := h.lt
  obtain ⟨c, u, hc, hn⟩ := h
  exact ⟨c, u, (Below.heap_alloc w o b hb).trans hc, hn⟩

/-- A new own block. -/
theorem alloc_rel {B : Base} {s : St} {E : Env} {F : Nat → Prop} {w : World} (hr : Rel B s E F w) (o : Obj) {e : En} {blk : Blk} (heb : e.blk = some w.heap.size)
    (hbr : Evo E F w (E ++ [e]) F (w.alloc o) (fun _ => True) → BR (E ++ [e]) F (w.alloc o) e blk) :
    Evo E F w (E ++ [e]) F (w.alloc o) (fun _ => True) ∧ Rel B { s with heap := s.heap ++ [blk] } (E ++ [e]) F (w.alloc o) := by
  have hold : ∀ c, c < w.heap.size → (w.alloc o).heap[c]? = w.heap[c]? := fun c hc => Below.heap_alloc w o c hc
  have hE : ∀ (j : Nat) (ej : En), E[j]? = some ej → (E ++ [e])[j]? = some ej := fun j ej h => by
    rw [List.getElem?_append_left (List.getElem?_eq_some_iff.1 h).1]; exact h
  have evo : Evo E F w (E ++ [e]) F (w.alloc o) (fun _ => True) := ⟨fun _ h => h, fun c hc => hold c (hr.lt c hc), fun j ej _ h => hE j ej h, fun c n h => h.alloc o⟩
  have hget : ∀ (j : Nat) (ej : En) (bj : Blk), (E ++ [e])[j]? = some ej → (s.heap ++ [blk])[j]? = some bj → (j = E.length ∧ ej = e ∧ bj = blk) ∨ (E[j]? = some ej ∧ s.heap[j]? = some bj) := fun j ej bj h1 h2 => by
    rcases Nat.lt_trichotomy j E.length with h | h | h
    · rw [List.getElem?_append_left h] at h1
      rw [List.getElem?_append_left (by rw [← hr.hr.len]; exact h)] at h2
      exact .inr ⟨h1, h2⟩
    · subst h
      rw [List.getElem?_append_right (Nat.le_refl _)] at h1
      rw [hr.hr.len, List.getElem?_append_right (Nat.le_refl _)] at h2
      simp at h1 h2
      exact .inl ⟨rfl, h1.symm, h2.symm⟩
    · rw [List.getElem?_eq_none (by simp; omega)] at h1; cases h1
  refine ⟨evo, hr.os, hr.tape, ⟨hr.output.output, hr.output.drawn⟩, by have := hr.size; simp; omega, hr.F0, hr.only, fun c h1 h2 => (hold c (Nat.lt_of_lt_of_le h1 hr.size)).trans (hr.same c h1 h2), fun c hc => by have := hr.lt c hc; simp; omega, ⟨by simp [hr.hr.len], ?_, ?_, ?_⟩, ?_, fun i hi => ?_, fun c n h => (hr.sz c n h).alloc o⟩
  · intro j ej bj h1 h2
    rcases hget j ej bj h1 h2 with ⟨rfl, rfl, rfl⟩ | ⟨h1, h2⟩
    · exact hbr evo
    · cases hlj : bj.live with
      | false => cases bj <;> simp_all [Blk.live]; trivial
      | true => exact (hr.hr.blk j ej bj h1 h2).evo evo (fun _ _ => trivial) fun c hc => hold c (hr.hr.free j c ej bj h1 hc h2 hlj).1
  · intro j c ej bj h1 hc h2 hlj
    rw [World.size_alloc]
    rcases hget j ej bj h1 h2 with ⟨rfl, rfl, rfl⟩ | ⟨h1, h2⟩
    · rw [heb] at hc
      simp only [Option.some.injEq] at hc
      subst hc
      exact ⟨by omega, fun h => by have := hr.lt _ h; omega⟩
    · obtain ⟨h3, h4⟩ := hr.hr.free j c ej bj h1 hc h2 hlj
      exact ⟨by omega, h4⟩
  · intro j l c ej el bj bl h1 h2 h3 h4 h5 h6 h7 h8
    rcases hget j ej bj h1 h5 with ⟨rfl, rfl, rfl⟩ | ⟨g1, g5⟩ <;> rcases hget l el bl h2 h6 with ⟨rfl, rfl, rfl⟩ | ⟨g2, g6⟩
    · rfl
    · rw [heb] at h3
      simp only [Option.some.injEq] at h3
      subst h3
      have := (hr.hr.free l _ el bl g2 h4 g6 h8).1
      omega
    · rw [heb] at h4
      simp only [Option.some.injEq] at h4
      subst h4
      have := (hr.hr.free j _ ej bj g1 h3 g5 h7).1
      omega
    · exact hr.hr.inj j l c ej el bj bl g1 g2 h3 h4 g5 g6 h7 h8
  · intro j c ej bj h1 h2 hlj hc
    rcases hget j ej bj h1 h2 with ⟨rfl, rfl, rfl⟩ | ⟨h1, h2⟩
    · rw [heb] at hc
      simp only [Option.some.injEq] at hc
      subst hc
      exact .inl hr.size
    · exact hr.src j c ej bj h1 h2 hlj hc
  · obtain ⟨e', h1, h2⟩ := hr.keep i hi
    exact ⟨e', hE i e' h1, h2⟩

/-- A new own block without memory: an empty slice. -/
theorem virt_rel {B : Base} {s : St} {E : Env} {F : Nat → Prop} {w : World} (hr : Rel B s E F w) (k : Nat) :
    Evo E F w (E ++ [⟨none, k, 0⟩]) F w (fun _ => True) ∧ Rel B { s with heap := s.heap ++ [.data k []] } (E ++ [⟨none, k, 0⟩]) F w := by
  have hE : ∀ (j : Nat) (ej : En), E[j]? = some ej → (E ++ [⟨none, k, 0⟩])[j]? = some ej := fun j ej h => by
    rw [List.getElem?_append_left (List.getElem?_eq_some_iff.1 h).1]; exact h
  have evo : Evo E F w (E ++ [⟨none, k, 0⟩]) F w (fun _ => True) := ⟨fun _ h => h, fun _ _ => rfl, fun j ej _ h => hE j ej h, fun _ _ h => h⟩
  have hget : ∀ (j : Nat) (ej : En) (bj : Blk), (E ++ [⟨none, k, 0⟩])[j]? = some ej → (s.heap ++ [.data k []])[j]? = some bj → (ej = ⟨none, k, 0⟩ ∧ bj = .data k []) ∨ (E[j]? = some ej ∧ s.heap[j]? = some bj) := fun j ej bj h1 h2 => by
    rcases Nat.lt_trichotomy j E.length with h | h | h
    · rw [List.getElem?_append_left h] at h1
      rw [List.getElem?_append_left (by rw [← hr.hr.len]; exact h)] at h2
      exact .inr ⟨h1, h2⟩
    · subst h
      rw [List.getElem?_append_right (Nat.le_refl _)] at h1
      rw [hr.hr.len, List.getElem?_append_right (Nat.le_refl _)] at h2
      simp at h1 h2
      exact .inl ⟨h1.symm, h2.symm⟩
    · rw [List.getElem?_eq_none (by simp; omega)] at h1; cases h1
  refine ⟨evo, hr.os, hr.tape, hr.output, hr.size, hr.F0, hr.only, hr.same, hr.lt, ⟨by simp [hr.hr.len], ?_, ?_, ?_⟩, ?_, fun i hi => ?_, hr.sz⟩
  · intro j ej bj h1 h2
    rcases hget j ej bj h1 h2 with ⟨rfl, rfl⟩ | ⟨h1, h2⟩
    · exact ⟨rfl, rfl, by simp, .inl ⟨rfl, rfl⟩⟩
    · exact (hr.hr.blk j ej bj h1 h2).evo evo (fun _ _ => trivial) fun c hc => rfl
  · intro j c ej bj h1 hc h2 hlj
    rcases hget j ej bj h1 h2 with ⟨rfl, rfl⟩ | ⟨h1, h2⟩
    · cases hc
    · exact hr.hr.free j c ej bj h1 hc h2 hlj
  · intro j l c ej el bj bl h1 h2 h3 h4 h5 h6 h7 h8
    rcases hget j ej bj h1 h5 with ⟨rfl, rfl⟩ | ⟨h1, h5⟩
    · cases h3
    · rcases hget l el bl h2 h6 with ⟨rfl, rfl⟩ | ⟨h2, h6⟩
      · cases h4
      · exact hr.hr.inj j l c ej el bj bl h1 h2 h3 h4 h5 h6 h7 h8
  · intro j c ej bj h1 h2 hlj hc
    rcases hget j ej bj h1 h2 with ⟨rfl, rfl⟩ | ⟨h1, h2⟩
    · cases hc
    · exact hr.src j c ej bj h1 h2 hlj hc
  · obtain ⟨e', h1, h2⟩ := hr.keep i hi
    exact ⟨e', hE i e' h1, h2⟩

theorem Sim.evo {B : Base} {s s' : St} {a : Act} {w w' : World} {E E' : Env} {F F' : Nat → Prop} (hs : Sim B s a w E F) (he : Evo E F w E' F' w' (fun _ => True)) (hr : Rel B s' E' F' w') (ht : s'.tm = s.tm) :
    Sim B s' a w' E' F' :=
  ⟨hr, hs.defers, fun i x hx => by rw [ht] at hx; obtain ⟨v, hv, h⟩ := hs.tm i x hx; exact ⟨v, hv, h.evo he (fun _ _ => trivial)⟩⟩

end Go.Aw
