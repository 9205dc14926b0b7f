/-
  The operations that only compute or read yield what 'opQ' says: addresses, fields, indexes, slices, arithmetic. Over any program; no condition.
-/
import Derived.Test.YtmmnjelmahcbaaaAwC
namespace Go.Aw
set_option linter.unusedSimpArgs false
set_option linter.unusedVariables false
open Go.RowKit

theorem kfld_spec {P : Program} {t i o : Nat} {u : TypeId} (h : kfld P t i = some (o, u)) :
    ∃ fs f j, P.underlying t = some (.struct fs) ∧ fs[i]? = some f ∧ P.info? f.type = some j ∧ j.size ≠ 0 ∧ f.offset = o ∧ f.type = u := by
  unfold kfld at h
  split at h
  · rename_i fs hu
    cases hf : fs[i]? with
    | none => simp [hf] at h
    | some f =>
      simp only [hf, Option.bind_some] at h
      split at h
      · rename_i j hj
        by_cases h0 : j.size = 0
        · simp [h0] at h
        · simp [h0] at h
          exact ⟨fs, f, j, hu, hf, hj, h0, h.1, h.2⟩
      · cases h
  · cases h

theorem run_fieldAt_of {P : Program} (w : World) {t i o : Nat} {u : TypeId} (h : kfld P t i = some (o, u)) (b x : Nat) :
    (Instr.fieldAt t (.pointer (some ⟨b, x, none⟩)) i).run P w = .ok (.pointer (some ⟨b, x + o, none⟩)) w := by
  obtain ⟨fs, f, j, hu, hf, hj, h0, rfl, rfl⟩ := kfld_spec h
  simp [Instr.fieldAt, run_underlying hu, hf, Instr.sureAddr, fieldPlace, sizeOf, typeInfo, hj, h0, Addr.add_mid]

theorem fieldAddrQ_sound {P : Program} {E : Env} {F : Nat → Prop} {w : World} {t i : Nat} {x y : V} {ob : Prop} {v : Value} (h : fieldAddrQ P t i x = some (ob, y))
    (hx : VR E F w x v) : ∃ u, VR E F w y u ∧ ∀ w', (Instr.fieldAt t v i).run P w' = .ok u w' := by
  cases hx with
  | ptr id row off b k m hE hm =>
    simp only [fieldAddrQ] at h
    cases hk : kfld P t i with
    | none => simp [hk] at h
    | some f =>
      simp only [hk, Option.map_some, Option.some.injEq, Prod.mk.injEq] at h
      obtain ⟨_, rfl⟩ := h
      exact ⟨_, .ptr id row (off + f.1) b k m hE hm, fun w' => by rw [run_fieldAt_of w' hk, Nat.add_assoc]⟩
  | d x v hd =>
    cases hd with
    | cp b o off xs c hF hc hr =>
      simp only [fieldAddrQ] at h
      cases hk : kfld P t i with
      | none => simp [hk] at h
      | some f =>
        simp only [hk, Option.map_some, Option.some.injEq, Prod.mk.injEq] at h
        obtain ⟨_, rfl⟩ := h
        exact ⟨_, .d _ _ (.cp b o (off + f.1) xs c hF hc hr), fun w' => by rw [run_fieldAt_of w' hk, Nat.add_assoc]⟩
    | _ => simp [fieldAddrQ] at h
  | _ => simp [fieldAddrQ] at h

theorem kel_slice {P : Program} {t n : Nat} {u : TypeId} (h : kel P t = some (none, n, u)) : ∃ i, P.underlying t = some (.slice u) ∧ P.info? u = some i ∧ i.size = n := by
  unfold kel at h
  split at h
  · rename_i e hu
    cases hi : P.info? e with
    | none => simp [hi] at h
    | some i => simp [hi] at h; obtain ⟨h1, rfl⟩ := h; exact ⟨i, hu, hi, h1⟩
  · rename_i n e hu
    cases hi : P.info? e with
    | none => simp [hi] at h
    | some i => simp [hi] at h
  · cases h

theorem kel_array {P : Program} {t m n : Nat} {u : TypeId} (h : kel P t = some (some m, n, u)) : ∃ i, P.underlying t = some (.array m u) ∧ P.info? u = some i ∧ i.size = n := by
  unfold kel at h
  split at h
  · rename_i e hu
    cases hi : P.info? e with
    | none => simp [hi] at h
    | some i => simp [hi] at h
  · rename_i m' e hu
    cases hi : P.info? e with
    | none => simp [hi] at h
    | some i => simp [hi] at h; obtain ⟨h0, h1, rfl⟩ := h; subst h0; exact ⟨i, hu, hi, h1⟩
  · cases h

theorem run_indexAt_sl {P : Program} (w : World) {t n : Nat} {u : TypeId} (h : kel P t = some (none, n, u)) (b o len cap : Nat) (k : IntKind) (i : Int) (h0 : 0 ≤ i) (h1 : i < len) :
    (Instr.indexAt t (.slice (some ⟨b, o, none⟩) len cap) (.int k i)).run P w = .ok (.pointer (some ⟨b, o + i.toNat * n, none⟩)) w := by
  obtain ⟨j, hu, hj, rfl⟩ := kel_slice h
  simp [Instr.indexAt, asIntOf, run_underlying hu, h0, h1, sizeOf, typeInfo, hj, Addr.add_mid]

theorem run_indexAt_arr {P : Program} (w : World) {t m n : Nat} {u : TypeId} (h : kel P t = some (some m, n, u)) (b o : Nat) (k : IntKind) (i : Int) (h0 : 0 ≤ i) (h1 : i < m) :
    (Instr.indexAt t (.pointer (some ⟨b, o, none⟩)) (.int k i)).run P w = .ok (.pointer (some ⟨b, o + i.toNat * n, none⟩)) w := by
  obtain ⟨j, hu, hj, rfl⟩ := kel_array h
  simp [Instr.indexAt, asIntOf, Instr.sureAddr, run_underlying hu, h0, h1, sizeOf, typeInfo, hj, Addr.add_mid]

theorem indexAddrQ_sound {P : Program} {E : Env} {F : Nat → Prop} {w : World} {H : List Blk} {t : TypeId} {x y : V} {ob : Prop} {v : Value} {i : Int} (k : IntKind)
    (h : indexAddrQ P H t x i = some (ob, y)) (hob : ob) (hr : HR E F w H) (hx : VR E F w x v) :
    ∃ u, VR E F w y u ∧ ∀ w', (Instr.indexAt t v (.int k i)).run P w' = .ok u w' := by
  cases hx with
  | ref id off len b k' m a cap n hE hm ha hl hb hc =>
    simp only [indexAddrQ] at h
    split at h
    · rename_i n' u k2 rows hk hH
      simp only [Option.some.injEq, Prod.mk.injEq] at h
      obtain ⟨rfl, rfl⟩ := h
      obtain ⟨rfl, h0, h1⟩ := hob
      obtain ⟨e1, _⟩ := hr.blk _ _ _ hE hH
      dsimp only at e1
      subst e1
      rw [ha (.inl (by omega))]
      exact ⟨_, .ptr id (off + i.toNat) 0 b k' m hE (by omega), fun w' => by rw [run_indexAt_sl w' hk b _ len cap k i h0 h1, Nat.add_zero, Nat.add_mul]⟩
    · rename_i n' u k2 rows hk hH
      simp only [Option.some.injEq, Prod.mk.injEq] at h
      obtain ⟨rfl, rfl⟩ := h
      obtain ⟨rfl, h0, h1⟩ := hob
      obtain ⟨e1, _⟩ := hr.blk _ _ _ hE hH
      dsimp only at e1
      subst e1
      rw [ha (.inl (by omega))]
      exact ⟨_, .ptr id (off + i.toNat) 0 b k' m hE (by omega), fun w' => by rw [run_indexAt_sl w' hk b _ len cap k i h0 h1, Nat.add_zero, Nat.add_mul]⟩
    · cases h
  | refv id k' m a hE =>
    simp only [indexAddrQ] at h
    split at h
    · simp only [Option.some.injEq, Prod.mk.injEq] at h
      obtain ⟨rfl, rfl⟩ := h
      obtain ⟨_, h0, h1⟩ := hob
      exact absurd h1 (by simp; omega)
    · simp only [Option.some.injEq, Prod.mk.injEq] at h
      obtain ⟨rfl, rfl⟩ := h
      obtain ⟨_, h0, h1⟩ := hob
      exact absurd h1 (by simp; omega)
    · cases h
  | ptr id row off b k' m' hE hm =>
    simp only [indexAddrQ] at h
    split at h
    · rename_i m n u hk
      simp only [Option.some.injEq, Prod.mk.injEq] at h
      obtain ⟨rfl, rfl⟩ := h
      exact ⟨_, .ptr id row (off + i.toNat * n) b k' m' hE hm, fun w' => by rw [run_indexAt_arr w' hk b _ k i hob.1 hob.2, Nat.add_assoc]⟩
    · cases h
  | d x v hd =>
    cases hd with
    | sl0 a cap =>
      simp only [indexAddrQ] at h
      split at h
      · simp only [Option.some.injEq, Prod.mk.injEq] at h
        obtain ⟨rfl, rfl⟩ := h
        obtain ⟨h0, h1, _⟩ := hob
        exact absurd h1 (by simp; omega)
      · cases h
    | sl b off cap k' rows c hn hF hkk hc hrr =>
      simp only [indexAddrQ] at h
      split at h
      · rename_i n u hk
        simp only [Option.some.injEq, Prod.mk.injEq] at h
        obtain ⟨rfl, rfl⟩ := h
        obtain ⟨h0, h1, h2⟩ := hob
        have hlt : i.toNat < rows.length := by omega
        have hrow : rows[i.toNat]? = some rows[i.toNat] := List.getElem?_eq_getElem hlt
        have hlen := hkk _ _ hrow
        simp only [hrow, Option.getD_some]
        have hnk : k' = n := by have := h2 _ (List.getElem_mem hlt); omega
        subst hnk
        refine ⟨.pointer (some ⟨b, off + i.toNat * k' + 0, none⟩), .d _ _ (.cp b (off + i.toNat * k') 0 _ (fun j => c i.toNat j) hF (fun j hj => ?_) fun j x hj => hrr _ _ _ _ hrow hj), fun w' => ?_⟩
        · have := hc i.toNat j hlt (by omega)
          rwa [← Nat.add_assoc] at this
        · exact run_indexAt_sl w' hk b off rows.length cap k i h0 h1
      · cases h
    | cp b o off xs c hF hc hrr =>
      simp only [indexAddrQ] at h
      split at h
      · rename_i m n u hk
        simp only [Option.some.injEq, Prod.mk.injEq] at h
        obtain ⟨rfl, rfl⟩ := h
        exact ⟨_, .d _ _ (.cp b o (off + i.toNat * n) xs c hF hc hrr), fun w' => by rw [run_indexAt_arr w' hk b _ k i hob.1 hob.2, Nat.add_assoc]⟩
      · cases h
    | _ => simp [indexAddrQ] at h
  | _ => simp [indexAddrQ] at h

theorem ksz_row {P : Program} {t n : Nat} (h : ksz P t = some (true, n)) (w : World) : (isAgg t).run P w = .ok true w ∧ (sizeOf t).run P w = .ok n w := by
  unfold ksz at h
  cases hu : P.underlying t with
  | none => simp [hu] at h
  | some d =>
    simp only [hu] at h
    cases hi : P.info? t with
    | none => simp [hi] at h
    | some i =>
      simp [hi] at h
      refine ⟨?_, by simp [sizeOf, typeInfo, hi, h.2]⟩
      unfold isAgg
      rw [Sem.run_bind, run_underlying hu w]
      cases d <;> simp_all [TypeDesc.isRow]

theorem ksz_leaf {P : Program} {t n : Nat} (h : ksz P t = some (false, n)) (w : World) : (isAgg t).run P w = .ok false w ∧ (sizeOf t).run P w = .ok n w := by
  unfold ksz at h
  cases hu : P.underlying t with
  | none => simp [hu] at h
  | some d =>
    simp only [hu] at h
    cases hi : P.info? t with
    | none => simp [hi] at h
    | some i =>
      simp [hi] at h
      refine ⟨?_, by simp [sizeOf, typeInfo, hi, h.2]⟩
      unfold isAgg
      rw [Sem.run_bind, run_underlying hu w]
      cases d <;> simp_all [TypeDesc.isRow]

/-- A part of an aggregate. -/
theorem part_row {P : Program} {E : Env} {F : Nat → Prop} {w : World} {t n o : Nat} {xs : List V} {cs : Array Value} (h : ksz P t = some (true, n)) (hs : cs.size = xs.length)
    (hr : ∀ (j : Nat) (x : V) (v : Value), xs[j]? = some x → cs[j]? = some v → VR E F w x v) (hb : o + n ≤ xs.length) :
    VR E F w (.agg ((xs.drop o).take n)) (.agg (cs.extract o (o + n))) ∧ ∀ w', (part t cs o).run P w' = .ok (.agg (cs.extract o (o + n))) w' := by
  refine ⟨.agg _ _ (by simp; omega) fun j x v hx hv => ?_, fun w' => by simp [part, (ksz_row h w').1, (ksz_row h w').2]⟩
  rcases Nat.lt_or_ge j n with hj | hj
  · rw [List.getElem?_take_of_lt hj, List.getElem?_drop] at hx
    rw [Array.getElem?_extract] at hv
    split at hv
    · exact hr _ _ _ hx hv
    · cases hv
  · rw [List.getElem?_take_eq_none hj] at hx; cases hx

theorem part_leaf {P : Program} {E : Env} {F : Nat → Prop} {w : World} {t n o : Nat} {xs : List V} {cs : Array Value} (h : ksz P t = some (false, n)) (hs : cs.size = xs.length)
    (hr : ∀ (j : Nat) (x : V) (v : Value), xs[j]? = some x → cs[j]? = some v → VR E F w x v) (hb : o < xs.length) :
    ∃ u, VR E F w (xs.getD o .junk) u ∧ ∀ w', (part t cs o).run P w' = .ok u w' := by
  have hc : cs[o]? = some (cs[o]'(by omega)) := Array.getElem?_eq_getElem _
  refine ⟨cs[o]'(by omega), ?_, fun w' => by simp [part, (ksz_leaf h w').1, hc]⟩
  rw [List.getD_eq_getElem?_getD, List.getElem?_eq_getElem hb]
  exact hr o _ _ (List.getElem?_eq_getElem hb) hc

theorem fieldQ_sound {P : Program} {E : Env} {F : Nat → Prop} {w : World} {t i : Nat} {x y : V} {ob : Prop} {v : Value} (h : fieldQ P t i x = some (ob, y)) (hob : ob)
    (hx : VR E F w x v) : ∃ u, VR E F w y u ∧ ∀ w', (Instr.field t v i).run P w' = .ok u w' := by
  cases hx with
  | agg xs cs hs hr =>
    simp only [fieldQ] at h
    cases hk : kfld P t i with
    | none => simp [hk] at h
    | some f =>
      obtain ⟨o, u⟩ := f
      simp only [hk] at h
      obtain ⟨fs, f, j, hu, hf, hj, h0, rfl, rfl⟩ := kfld_spec hk
      split at h
      · rename_i n hz
        simp only [Option.some.injEq, Prod.mk.injEq] at h
        obtain ⟨rfl, rfl⟩ := h
        obtain ⟨h1, h2⟩ := part_row hz hs hr hob
        exact ⟨_, h1, fun w' => by simp [Instr.field, run_underlying hu, hf, asAgg, h2]⟩
      · rename_i hz
        simp only [Option.some.injEq, Prod.mk.injEq] at h
        obtain ⟨rfl, rfl⟩ := h
        obtain ⟨u, h1, h2⟩ := part_leaf hz hs hr hob
        exact ⟨u, h1, fun w' => by simp [Instr.field, run_underlying hu, hf, asAgg, h2]⟩
      · cases h
  | _ => simp [fieldQ] at h

theorem indexQ_sound {P : Program} {E : Env} {F : Nat → Prop} {w : World} {t : Nat} {x y : V} {ob : Prop} {v : Value} {i : Int} (k : IntKind) (h : indexQ P t x i = some (ob, y)) (hob : ob)
    (hx : VR E F w x v) : ∃ u, VR E F w y u ∧ ∀ w', (Instr.index t v (.int k i)).run P w' = .ok u w' := by
  cases hx with
  | agg xs cs hs hr =>
    simp only [indexQ] at h
    split at h
    · rename_i m n u hk
      obtain ⟨j, hu, hj, rfl⟩ := kel_array hk
      split at h
      · rename_i n' hz
        simp only [Option.some.injEq, Prod.mk.injEq] at h
        obtain ⟨rfl, rfl⟩ := h
        obtain ⟨h0, h1, h2⟩ := hob
        have hn : n' = j.size := by
          have := (ksz_row hz w).2
          simpa [sizeOf, typeInfo, hj] using this.symm
        subst hn
        obtain ⟨h3, h4⟩ := part_row (o := i.toNat * j.size) hz hs hr (by
          have : (i.toNat + 1) * j.size ≤ m * j.size := Nat.mul_le_mul_right _ (by omega)
          rw [Nat.add_mul, Nat.one_mul] at this
          omega)
        exact ⟨_, h3, fun w' => by simp [Instr.index, asIntOf, run_underlying hu, h0, h1, sizeOf, typeInfo, hj, h4]⟩
      · rename_i hz
        simp only [Option.some.injEq, Prod.mk.injEq] at h
        obtain ⟨rfl, rfl⟩ := h
        obtain ⟨hn, h0, h1, h2⟩ := hob
        obtain ⟨u, h3, h4⟩ := part_leaf (o := i.toNat) hz hs hr (by omega)
        exact ⟨u, h3, fun w' => by simp [Instr.index, asIntOf, run_underlying hu, h0, h1, sizeOf, typeInfo, hj, hn, h4]⟩
      · cases h
    · cases h
  | d x v hd =>
    cases hd with
    | str s =>
      simp only [indexQ] at h
      split at h
      · rename_i hk
        simp only [Option.some.injEq, Prod.mk.injEq] at h
        obtain ⟨rfl, rfl⟩ := h
        obtain ⟨h0, h1⟩ := hob
        have hu : P.underlying t = some .string := by
          unfold kstr at hk
          split at hk
          · assumption
          · cases hk
        have hlt : i.toNat < s.size := by omega
        have hlt' : i.toNat < s.data.size := hlt
        refine ⟨_, .d _ _ (.int _ _), fun w' => ?_⟩
        have hb : s[i.toNat]? = some (s[i.toNat]'hlt) := getElem?_pos s _ hlt
        simp only [Instr.index, asIntOf, Sem.run_bind, Sem.run_pure, Result.andThen_ok, run_underlying hu, if_pos h0, hb]
        simp only [Sem.run_pure, Array.getD, dif_pos hlt']
        rfl
      · cases h
    | _ => simp [indexQ] at h
  | _ => simp [indexQ] at h

end Go.Aw
