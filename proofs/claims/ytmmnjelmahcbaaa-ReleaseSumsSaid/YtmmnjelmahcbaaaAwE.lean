/-
  The operations that only compute or read yield what 'opQ' says: slices, arithmetic; and all of them together. Over any program; no condition.
-/
import Derived.Test.YtmmnjelmahcbaaaAwD
namespace Go.Aw
set_option linter.unusedSimpArgs false
set_option linter.unusedVariables false
open Go.RowKit

/-- A bound of a slice expression. -/
def Bd (x : Option Value) (dflt l : Int) : Prop := (x = none ∧ l = dflt) ∨ ∃ k, x = some (.int k l)

theorem run_sliceAt_sl {P : Program} (w : World) {t n : Nat} {u : TypeId} (hk : kel P t = some (none, n, u)) (a : Option Addr) (len cap : Nat) (lo hi : Option Value) (l h : Int)
    (hl : Bd lo 0 l) (hh : Bd hi len h) (h0 : 0 ≤ l) (h1 : l ≤ h) (h2 : h ≤ cap) :
    (Instr.sliceAt t (.slice a len cap) lo hi none).run P w = .ok (.slice (if cap = l.toNat then a else a.map (·.add (l.toNat * n))) (h.toNat - l.toNat) (cap - l.toNat)) w := by
  obtain ⟨j, hu, hj, rfl⟩ := kel_slice hk
  have e0 : 0 ≤ h := by omega
  have e1 : l ≤ (h.toNat : Int) := by omega
  rcases hl with ⟨rfl, rfl⟩ | ⟨k1, rfl⟩ <;> rcases hh with ⟨rfl, rfl⟩ | ⟨k2, rfl⟩ <;>
    simp [Instr.sliceAt, Instr.slice, Instr.sliceBounds, Instr.sliceBound, asIntOf, run_underlying hu, sizeOf, typeInfo, hj, h0, h2, e0, e1]
  all_goals (intro hlt; exfalso; omega)

theorem run_sliceAt_000 {P : Program} (w : World) {t n : Nat} {u : TypeId} (hk : kel P t = some (none, n, u)) (a : Option Addr) (len cap : Nat) (lo : Option Value) (k1 k2 : IntKind) (hl : Bd lo 0 0) :
    (Instr.sliceAt t (.slice a len cap) lo (some (.int k1 0)) (some (.int k2 0))).run P w = .ok (.slice a 0 0) w := by
  obtain ⟨j, hu, hj, rfl⟩ := kel_slice hk
  rcases hl with ⟨rfl, _⟩ | ⟨k1, rfl⟩ <;>
    simp [Instr.sliceAt, Instr.slice, Instr.sliceBounds, Instr.sliceBound, asIntOf, run_underlying hu, sizeOf, typeInfo, hj]

theorem kstr_spec {P : Program} {t : TypeId} (hk : kstr P t = true) : P.underlying t = some .string := by
  unfold kstr at hk
  split at hk
  · assumption
  · cases hk

theorem run_sliceAt_str {P : Program} (w : World) {t : Nat} (hk : kstr P t = true) (s : ByteArray) (lo hi : Option Value) (l h : Int)
    (hl : Bd lo 0 l) (hh : Bd hi s.size h) (h0 : 0 ≤ l) (h1 : l ≤ h) (h2 : h ≤ s.size) :
    (Instr.sliceAt t (.string s) lo hi none).run P w = .ok (.string (s.extract l.toNat h.toNat)) w := by
  have hu := kstr_spec hk
  have e0 : 0 ≤ h := by omega
  have e1 : l ≤ (h.toNat : Int) := by omega
  rcases hl with ⟨rfl, rfl⟩ | ⟨k1, rfl⟩ <;> rcases hh with ⟨rfl, rfl⟩ | ⟨k2, rfl⟩ <;>
    simp [Instr.sliceAt, Instr.slice, Instr.sliceBounds, Instr.sliceBound, asIntOf, run_underlying hu, h0, h2, e0, e1]
  all_goals (intro hlt; exfalso; omega)

theorem sliceQ_sound {P : Program} {E : Env} {F : Nat → Prop} {w : World} {H : List Blk} {t : TypeId} {x y : V} {ob : Prop} {v : Value} {l : Int} {h m : Option Int}
    (hq : sliceQ P H t x l h m = some (ob, y)) (hob : ob) (hr : HR E F w H) (hx : VR E F w x v) (lo hi mx : Option Value) (hlo : Bd lo 0 l)
    (hhi : (hi = none ∧ h = none) ∨ ∃ k n, hi = some (.int k n) ∧ h = some n) (hmx : (mx = none ∧ m = none) ∨ ∃ k n, mx = some (.int k n) ∧ m = some n) :
    ∃ u, VR E F w y u ∧ ∀ w', (Instr.sliceAt t v lo hi mx).run P w' = .ok u w' := by
  have hb : ∀ d : Int, Bd hi d (h.getD d) := fun d => by
    rcases hhi with ⟨rfl, rfl⟩ | ⟨k, n, rfl, rfl⟩
    · exact .inl ⟨rfl, rfl⟩
    · exact .inr ⟨k, rfl⟩
  have hmn : m = none → mx = none := fun e => by
    rcases hmx with ⟨rfl, _⟩ | ⟨k, n, rfl, rfl⟩
    · rfl
    · cases e
  cases hx with
  | ref id off len b k m' a cap n hE hm' ha hl hsz hc =>
    cases m with
    | some m => cases h <;> simp [sliceQ] at hq
    | none =>
      obtain rfl := hmn rfl
      simp only [sliceQ] at hq
      split at hq
      · rename_i n' u k2 rows hk hH
        simp only [Option.some.injEq, Prod.mk.injEq] at hq
        obtain ⟨rfl, rfl⟩ := hq
        obtain ⟨hn, h0, h1, h2⟩ := hob
        obtain ⟨ek, _⟩ := hr.blk _ _ _ hE hH
        dsimp only at ek
        subst ek
        have hbb := hb (len : Int)
        generalize h.getD (len : Int) = hh at *
        refine ⟨_, ?_, fun w' => run_sliceAt_sl w' hk a len cap lo hi l hh hlo hbb h0 h1 (by omega)⟩
        refine .ref id _ _ b k m' _ _ n hE (by omega) (fun hor => ?_) (by omega) hsz ?_
        · by_cases e : l = 0
          · subst e
            have hlen : 0 < len ∨ off = 0 := by omega
            simp only [Int.toNat_zero, Nat.zero_mul, Nat.add_zero]
            rw [ha hlen]
            split
            · rfl
            · rfl
          · rw [if_neg (by omega), ha (by omega)]
            simp [Addr.add_mid, Nat.add_mul, hn]
        · have : (off + l.toNat + (cap - l.toNat)) = off + cap := by omega
          rw [this]; exact hc
      · rename_i n' u k2 rows hk hH
        simp only [Option.some.injEq, Prod.mk.injEq] at hq
        obtain ⟨rfl, rfl⟩ := hq
        obtain ⟨hn, h0, h1, h2⟩ := hob
        obtain ⟨ek, _⟩ := hr.blk _ _ _ hE hH
        dsimp only at ek
        subst ek
        have hbb := hb (len : Int)
        generalize h.getD (len : Int) = hh at *
        refine ⟨_, ?_, fun w' => run_sliceAt_sl w' hk a len cap lo hi l hh hlo hbb h0 h1 (by omega)⟩
        refine .ref id _ _ b k m' _ _ n hE (by omega) (fun hor => ?_) (by omega) hsz ?_
        · by_cases e : l = 0
          · subst e
            have hlen : 0 < len ∨ off = 0 := by omega
            simp only [Int.toNat_zero, Nat.zero_mul, Nat.add_zero]
            rw [ha hlen]
            split
            · rfl
            · rfl
          · rw [if_neg (by omega), ha (by omega)]
            simp [Addr.add_mid, Nat.add_mul, hn]
        · have : (off + l.toNat + (cap - l.toNat)) = off + cap := by omega
          rw [this]; exact hc
      · cases hq
  | refv id k m' a hE =>
    cases m with
    | some m => cases h <;> simp [sliceQ] at hq
    | none =>
      obtain rfl := hmn rfl
      simp only [sliceQ] at hq
      split at hq
      · rename_i n' u k2 rows hk hH
        simp only [Option.some.injEq, Prod.mk.injEq] at hq
        obtain ⟨rfl, rfl⟩ := hq
        obtain ⟨hn, h0, h1, h2⟩ := hob
        have hbb := hb ((0 : Nat) : Int)
        generalize h.getD ((0 : Nat) : Int) = hh at *
        have e1 : l = 0 := by omega
        have e2 : hh = 0 := by omega
        subst e1 e2
        exact ⟨_, .refv id k m' _ hE, fun w' => by simpa using run_sliceAt_sl w' hk a 0 0 lo hi 0 0 hlo hbb (by omega) (by omega) (by omega)⟩
      · rename_i n' u k2 rows hk hH
        simp only [Option.some.injEq, Prod.mk.injEq] at hq
        obtain ⟨rfl, rfl⟩ := hq
        obtain ⟨hn, h0, h1, h2⟩ := hob
        have hbb := hb ((0 : Nat) : Int)
        generalize h.getD ((0 : Nat) : Int) = hh at *
        have e1 : l = 0 := by omega
        have e2 : hh = 0 := by omega
        subst e1 e2
        exact ⟨_, .refv id k m' _ hE, fun w' => by simpa using run_sliceAt_sl w' hk a 0 0 lo hi 0 0 hlo hbb (by omega) (by omega) (by omega)⟩
      · cases hq
  | nil a =>
    cases m with
    | some m => cases h <;> simp [sliceQ] at hq
    | none =>
      obtain rfl := hmn rfl
      simp only [sliceQ] at hq
      split at hq
      · rename_i n' u hk
        simp only [Option.some.injEq, Prod.mk.injEq] at hq
        obtain ⟨rfl, rfl⟩ := hq
        obtain ⟨rfl, h1⟩ := hob
        have hbb := hb 0
        rw [h1] at hbb
        exact ⟨_, .nil _, fun w' => by simpa using run_sliceAt_sl w' hk a 0 0 lo hi 0 0 hlo hbb (by omega) (by omega) (by omega)⟩
      · cases hq
  | d x v hd =>
    cases hd with
    | sl0 a cap =>
      cases m with
      | some m =>
        cases h with
        | none => simp [sliceQ] at hq
        | some h =>
          simp only [sliceQ] at hq
          split at hq
          · rename_i n' u hk
            simp only [Option.some.injEq, Prod.mk.injEq] at hq
            obtain ⟨rfl, rfl⟩ := hq
            obtain ⟨rfl, rfl, rfl⟩ := hob
            rcases hhi with ⟨_, hx⟩ | ⟨k1, n1, rfl, hx⟩
            · cases hx
            rcases hmx with ⟨_, hy⟩ | ⟨k2, n2, rfl, hy⟩
            · cases hy
            cases hx; cases hy
            exact ⟨_, .nil _, fun w' => run_sliceAt_000 w' hk a 0 cap lo k1 k2 hlo⟩
          · cases hq
      | none =>
        obtain rfl := hmn rfl
        simp only [sliceQ] at hq
        split at hq
        · rename_i n' u hk
          simp only [Option.some.injEq, Prod.mk.injEq] at hq
          obtain ⟨rfl, rfl⟩ := hq
          obtain ⟨h0, h1, h2, _⟩ := hob
          have hbb := hb (([] : List (List D)).length : Int)
          generalize h.getD (([] : List (List D)).length : Int) = hh at *
          simp only [List.length_nil] at h2
          have e1 : l = 0 := by omega
          have e2 : hh = 0 := by omega
          subst e1 e2
          simp only [List.drop_nil, List.take_nil]
          exact ⟨_, .d _ _ (.sl0 _ _), fun w' => by simpa using run_sliceAt_sl w' hk a 0 cap lo hi 0 0 hlo hbb (by omega) (by omega) (by omega)⟩
        · cases hq
    | sl b off cap k rows c hn hF hkk hc hrr =>
      cases m with
      | some m =>
        cases h with
        | none => simp [sliceQ] at hq
        | some h =>
          simp only [sliceQ] at hq
          split at hq
          · rename_i n' u hk
            simp only [Option.some.injEq, Prod.mk.injEq] at hq
            obtain ⟨rfl, rfl⟩ := hq
            obtain ⟨rfl, rfl, rfl⟩ := hob
            rcases hhi with ⟨_, hx⟩ | ⟨k1, n1, rfl, hx⟩
            · cases hx
            rcases hmx with ⟨_, hy⟩ | ⟨k2, n2, rfl, hy⟩
            · cases hy
            cases hx; cases hy
            exact ⟨_, .nil _, fun w' => run_sliceAt_000 w' hk _ rows.length cap lo k1 k2 hlo⟩
          · cases hq
      | none =>
        obtain rfl := hmn rfl
        simp only [sliceQ] at hq
        split at hq
        · rename_i n' u hk
          simp only [Option.some.injEq, Prod.mk.injEq] at hq
          obtain ⟨rfl, rfl⟩ := hq
          obtain ⟨h0, h1, h2, hn'⟩ := hob
          have hbb := hb (rows.length : Int)
          generalize h.getD (rows.length : Int) = hh at *
          refine ⟨_, .d _ _ ?_, fun w' => run_sliceAt_sl w' hk _ rows.length cap lo hi l hh hlo hbb h0 h1 (by omega)⟩
          have hlen : ((rows.drop l.toNat).take (hh.toNat - l.toNat)).length = hh.toNat - l.toNat := by
            rw [List.length_take, List.length_drop]; omega
          by_cases hz : hh.toNat - l.toNat = 0
          · rw [hz, List.take_zero]
            exact .sl0 _ _
          · have hll : l.toNat < rows.length := by omega
            have hkn : k = n' := by
              have h5 := hkk _ _ (List.getElem?_eq_getElem hll)
              have h6 := hn' _ (List.getElem_mem hll)
              omega
            subst hkn
            rw [if_neg (by omega)]
            have := RD.sl (F := F) (w := w) b (off + l.toNat * k) (cap - l.toNat) k ((rows.drop l.toNat).take (hh.toNat - l.toNat)) (fun i j => c (l.toNat + i) j) (by omega) hF
              (fun i row hi => hkk (l.toNat + i) row (by
                rw [List.getElem?_take] at hi
                split at hi
                · rwa [List.getElem?_drop] at hi
                · cases hi))
              (fun i j hi hj => by
                have h7 := hc (l.toNat + i) j (by omega) hj
                rw [Nat.add_mul] at h7
                have e : off + (l.toNat * k + i * k + j) = off + l.toNat * k + (i * k + j) := by omega
                rwa [e] at h7)
              (fun i row j x hi hj => hrr (l.toNat + i) row j x (by
                rw [List.getElem?_take] at hi
                split at hi
                · rwa [List.getElem?_drop] at hi
                · cases hi) hj)
            rw [hlen] at this
            simpa [Addr.add_mid] using this
        · cases hq
    | str s =>
      cases m with
      | some m => cases h <;> simp [sliceQ] at hq
      | none =>
        obtain rfl := hmn rfl
        simp only [sliceQ] at hq
        split at hq
        · rename_i hk
          simp only [Option.some.injEq, Prod.mk.injEq] at hq
          obtain ⟨rfl, rfl⟩ := hq
          obtain ⟨h0, h1, h2⟩ := hob
          exact ⟨_, .d _ _ (.str _), fun w' => run_sliceAt_str w' hk s lo hi l _ hlo (hb _) h0 h1 h2⟩
        · cases hq
    | _ => cases m <;> cases h <;> simp [sliceQ] at hq
  | _ => cases m <;> cases h <;> simp [sliceQ] at hq

end Go.Aw
