/-
  A new row of numbers that a call hands back, as an own block; a row that is read, as cells. Over any program; no condition.
-/
import Derived.Test.YtmmnjelmahcbaaaGreatPkF
import Derived.Test.YtmmnjelmahcbaaaGreatPxAwSr
import Derived.Test.YtmmnjelmahcbaaaGreatPxAwDr
namespace Go.Aw
set_option linter.unusedSimpArgs false
set_option linter.unusedVariables false
open Go.RowKit Go.Proofs Go.Sort

theorem sz_same {w W : World} (h : ∀ b, b < w.heap.size → W.heap[b]? = w.heap[b]?) {b n : Nat} (hs : Sz w b n) : Sz W b n := by
  obtain ⟨cs, t, h1, h2⟩ := hs
  exact ⟨cs, t, (h b (Array.getElem?_eq_some_iff.1 h1).1).trans h1, h2⟩

theorem data_back {w W : World} {E : Env} {F : Nat → Prop} {v : Value} {e : TypeId} {n : Nat} {xs : List Int} (hlt : ∀ b, F b → b < w.heap.size) (hst : Stays w W) (hrow : W.ownsRow w.heap.size e 1 v n (xs.map (Value.int .i64))) :
    ∃ E', Rel ⟨w, F, own E [], E, []⟩ ⟨[], [.data 1 (xs.map encI)]⟩ E' F W ∧ VR E' F W (.ref 0 0 xs.length) v := by
  obtain ⟨rfl, h⟩ := ownsRow_row hrow
  have mk : ∀ en : En, BR [en] F W en (.data 1 (xs.map encI)) → (∀ b, en.blk = some b → b < W.heap.size ∧ w.heap.size ≤ b) → Rel ⟨w, F, own E [], E, []⟩ ⟨[], [.data 1 (xs.map encI)]⟩ [en] F W := fun en hbr hb => by
    have one : ∀ (i : Nat) (e' : En), [en][i]? = some e' → i = 0 ∧ e' = en := fun i e' h => by
      cases i with
      | zero => simp at h; exact ⟨rfl, h.symm⟩
      | succ i => simp at h
    refine ⟨hst.os, hst.tape, hst.later, hst.size, fun _ h => h, fun b hb => .inl hb, fun b hb _ => hst.same b hb, fun b hb => Nat.lt_of_lt_of_le (hlt b hb) hst.size, ⟨rfl, ?_, ?_, ?_⟩, ?_, (fun i hi => by cases hi), fun b n h => sz_same hst.same h⟩
    · intro id e' b h1 h2
      obtain ⟨rfl, rfl⟩ := one id e' h1
      simp at h2
      subst h2
      exact hbr
    · intro id b e' blk h1 h2 _ _
      obtain ⟨rfl, rfl⟩ := one id e' h1
      exact ⟨(hb b h2).1, fun hF => by have := hlt b hF; have := (hb b h2).2; omega⟩
    · intro i j b ei ej bi bj h1 h2 _ _ _ _ _ _
      rw [(one i ei h1).1, (one j ej h2).1]
    · intro id b e' blk h1 h2 h3 h4
      obtain ⟨rfl, rfl⟩ := one id e' h1
      exact .inl (hb b h4).2
  rcases h with ⟨rfl, rfl⟩ | ⟨g, cap, cur, rfl, hbase, hg, hcap, hcur, hcell⟩
  · refine ⟨[⟨none, 1, 0⟩], mk _ ⟨rfl, rfl, by simp, .inl ⟨rfl, rfl⟩⟩ (fun b h => by cases h), .refv 0 1 0 none rfl⟩
  · have hgl : g < W.heap.size := (Array.getElem?_eq_some_iff.1 hg).1
    refine ⟨[⟨some g, 1, xs.length⟩], mk _ ⟨rfl, by simp, fun i row hi => encI_row (List.mem_of_getElem? hi), .inr ⟨g, cur, e, rfl, hg, by simp; omega, fun i row j x hi hj => ?_⟩⟩ (fun b h => by cases h; exact ⟨hgl, hbase⟩), ?_⟩
    · simp only [List.getElem?_map, Option.map_eq_some_iff] at hi
      obtain ⟨z, hz, rfl⟩ := hi
      obtain ⟨hil, rfl⟩ := List.getElem?_eq_some_iff.1 hz
      cases j with
      | zero =>
        simp only [encI, List.getElem?_cons_zero, Option.some.injEq] at hj
        subst hj
        exact ⟨_, by rw [Nat.mul_one, Nat.add_zero]; exact hcell i hil, .int _ _⟩
      | succ j => simp [encI] at hj
    · exact .ref 0 0 xs.length g 1 xs.length (some ⟨g, 0, none⟩) cap cur.size rfl (by omega) (fun _ => by simp) hcap ⟨cur, e, hg, rfl⟩ (by omega)

/-- A row of numbers that is read. -/
theorem sl_ints {F : Nat → Prop} {w : World} {xs : List Int} {sv : Value} (h : RD F w (.sl (xs.map encI)) sv) (b0 : Nat) (hb0 : b0 < w.heap.size) (hlt : ∀ b, F b → b < w.heap.size) :
    ∃ (ad : Option Addr) (cap b off : Nat), sv = .slice ad xs.length cap ∧ (0 < xs.length → ad = some ⟨b, off, none⟩) ∧ b < w.heap.size ∧ ∀ j (hj : j < xs.length), w.cell? ⟨b, off + j, none⟩ = some (.int .i64 xs[j]) := by
  generalize hx : D.sl (xs.map encI) = x at h
  cases h with
  | sl0 a cap =>
    injection hx with hx
    have : xs = [] := by simpa using hx
    subst this
    exact ⟨a, cap, b0, 0, rfl, fun h => absurd h (by decide), hb0, fun j hj => absurd hj (by simp)⟩
  | sl b off cap k rows c hn hF hk hc hr =>
    injection hx with hx
    subst hx
    refine ⟨some ⟨b, off, none⟩, cap, b, off, by simp, fun _ => rfl, hlt b hF, fun j hj => ?_⟩
    have h0 := hk j (encI xs[j]) (by simp [hj])
    simp only [encI, List.length_cons, List.length_nil, Nat.zero_add] at h0
    subst h0
    have h1 := hc j 0 (by simpa using hj) (by decide)
    have h2 := hr j (encI xs[j]) 0 (.int .i64 xs[j]) (by simp [hj]) rfl
    rw [Nat.mul_one, Nat.add_zero] at h1
    rw [h1]
    generalize c j 0 = u at h2
    cases h2
    rfl
  | _ => cases hx
end Go.Aw
