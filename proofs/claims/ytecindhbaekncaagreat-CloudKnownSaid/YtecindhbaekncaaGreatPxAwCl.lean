/-
  clear of a part of an own row of data. Over any program; no condition.
-/
import Derived.Test.YtecindhbaekncaaGreatPxAwRg
namespace Go.Aw
set_option linter.unusedSimpArgs false
set_option linter.unusedVariables false
open Go.RowKit

variable {P : Program}

theorem setL_nil {α : Type} (l : List α) (o : Nat) : setL l o [] = l := by simp [setL]
theorem run_clear0 {t ty : TypeId} {d : TypeDesc} (hu : P.underlying t = some d) (a : Option Addr) (cap : Nat) (w : World) : (Builtin.clear_ #[t] ty #[.slice a 0 cap]).run P w = .ok (.tuple #[]) w := by
  unfold Builtin.clear_
  cases a <;> simp [Sem.run_bind, run_underlying hu w]
theorem run_clear {t ty e : TypeId} {i : TypeInfo} {z : Value} (hu : P.underlying t = some (.slice e)) (hi : P.info? e = some i) (hz : i.zero = some z) (b o len cap : Nat) (cs : Array Value) (tt : TypeId) (w : World) (hw : w.heap[b]? = some (.cells cs tt (0, 0)))
    (ho : o + len * z.cells.size ≤ cs.size) (h1 : ∀ u ∈ (Builtin.zeroCells z.cells len).toList, u.oneCell' = true) (hl : len ≠ 0) :
    (Builtin.clear_ #[t] ty #[.slice (some ⟨b, o, none⟩) len cap]).run P w = .ok (.tuple #[]) (w.setRow b (setL cs.toList o (Builtin.zeroCells z.cells len).toList).toArray) := by
  have := run_storeCells_at (P := P) b o tt (Builtin.zeroCells z.cells len).toList 0 cs w hw (by simp [size_zeroCells]; omega) h1
  simp only [Nat.add_zero, List.append_assoc] at this
  obtain ⟨n, rfl⟩ : ∃ n, len = n + 1 := ⟨len - 1, by omega⟩
  unfold Builtin.clear_
  simp [Sem.run_bind, run_underlying hu w, zeroValue, typeInfo, hi, hz, this, setL]
theorem zeroCells_get {z : Array Value} {n k i j : Nat} (hz : z.size = k) (hi : i < n) (hj : j < k) : (Builtin.zeroCells z n)[i * k + j]? = z[j]? := by
  have hlt : i * k + j < n * z.size := by
    rw [hz]
    have : (i + 1) * k ≤ n * k := Nat.mul_le_mul_right k hi
    rw [Nat.add_mul, Nat.one_mul] at this
    omega
  have hm : (i * k + j) % z.size = j := by
    rw [hz, Nat.add_comm, Nat.add_mul_mod_self_right, Nat.mod_eq_of_lt hj]
  simp only [Builtin.zeroCells, Array.getElem?_map, Array.getElem?_range, hlt, if_true, Option.map_some, hm]
  rw [getElem!_pos z j (by omega), Array.getElem?_eq_getElem (by omega)]
theorem zeroCells_mem {z : Array Value} {n : Nat} {u : Value} (h : u ∈ (Builtin.zeroCells z n).toList) : ∃ j : Nat, z[j]? = some u := by
  simp only [Builtin.zeroCells, Array.toList_map, Array.toList_range, List.mem_map, List.mem_range] at h
  obtain ⟨i, hi, rfl⟩ := h
  have hp : 0 < z.size := by
    rcases Nat.eq_zero_or_pos z.size with h | h
    · rw [h, Nat.mul_zero] at hi; omega
    · exact h
  have := Nat.mod_lt i hp
  exact ⟨i % z.size, by rw [getElem!_pos z _ this, Array.getElem?_eq_getElem this]⟩
theorem clear_X {kp : List Nat} {t ty u : TypeId} {x : Operand} {ps : String} {af : Array Edge} {s : St} {K : St → Prop} {id off len k : Nat} {rows : List (List D)} {zs : List V} {ds : List D}
    (hx : s.ev x = .ref id off len) (hH : s.heap[id]? = some (.data k rows)) (hk : kel P t = some (none, k, u)) (hz : kzero P u = some zs) (hd : dOfs zs = some ds) (hl : zs.length = k) (hlf : ds.all D.leaf = true) (hb : off + len ≤ rows.length)
    (hK : K { s with heap := s.heap.set id (.data k (setL rows off (List.replicate len ds))) }) :
    OpX P kp { dst := none, op := .call { callee := .builtin .clear, args := #[x], argTypes := #[t] }, type := ty, pos := ps, after := af, guard := none } s K := by
  intro B a w E F ops Q hkp hs _
  refine ⟨rfl, ?_⟩
  have hv := ev_sound hs x
  rw [hx] at hv
  obtain ⟨i, hu, hi, hisz⟩ := kel_slice hk
  obtain ⟨i', z, hi', hz', rfl⟩ := kzero_spec hz
  rw [hi] at hi'
  cases hi'
  have hzs : z.cells.size = k := by simpa using hl
  obtain ⟨hd1, hd2⟩ := dOfs_get hd
  have hds : ds.length = k := by omega
  have done : ∀ v, a.eval x = v → ∀ w' : World, (Builtin.clear_ #[t] ty #[v]).run P w = .ok (.tuple #[]) w' → Rel B { s with heap := s.heap.set id (.data k (setL rows off (List.replicate len ds))) } E F w' → Evo E F w E F w' (fun _ => True) →
      Oper.wp P { dst := none, op := .call { callee := .builtin .clear, args := #[x], argTypes := #[t] }, type := ty, pos := ps, after := af, guard := none } a w (fun a' w' => ∃ v s' E' F', a' = a.put none v ∧ K s' ∧ Sim B s' a' w' E' F') Q := by
    intro v hv w' hrun hrel hevo
    unfold Oper.wp
    have : (execOp a.eval ({ dst := none, op := .call { callee := .builtin .clear, args := #[x], argTypes := #[t] }, type := ty, pos := ps, after := af, guard := none } : Oper)).run P w = .ok (.value (.tuple #[])) w' := by
      simp [execOp, resolve, invoke, builtin, hv, hrun]
    rw [this]
    exact ⟨.tuple #[], _, E, F, rfl, hK, hs.evo hevo hrel rfl⟩
  have same : rows.length = rows.length → len = 0 → setL rows off (List.replicate len ds) = rows := fun _ h => by rw [h, List.replicate_zero, setL_nil]
  have hset : s.heap.set id (.data k rows) = s.heap := by
    apply List.ext_getElem?
    intro j
    rw [List.getElem?_set]
    split
    · rename_i h
      subst h
      split
      · exact hH.symm
      · rename_i h; rw [List.getElem?_eq_none (by omega)]
    · rfl
  have zero : ∀ v a' cap, a.eval x = v → v = .slice a' 0 cap → len = 0 → Oper.wp P { dst := none, op := .call { callee := .builtin .clear, args := #[x], argTypes := #[t] }, type := ty, pos := ps, after := af, guard := none } a w (fun a' w' => ∃ v s' E' F', a' = a.put none v ∧ K s' ∧ Sim B s' a' w' E' F') Q := by
    rintro v a' cap he rfl h0
    refine done _ he w (run_clear0 hu a' cap w) ?_ ⟨fun _ h => h, fun _ _ => rfl, fun _ _ _ h => h, fun _ _ h => h⟩
    rw [same rfl h0, hset]
    exact hs.rel
  generalize he : a.eval x = v at hv
  cases hv with
  | refv _ k m a' hE => exact zero _ a' 0 he rfl rfl
  | ref _ _ _ b k m a' cap n hE hm ha hl' hbz hc =>
    obtain ⟨h1, h2, h3, h4⟩ := hs.rel.hr.blk _ _ _ hE hH
    dsimp only at h1 h2
    subst h1 h2
    rcases h4 with ⟨h4, _⟩ | ⟨b', cs, tt, h4, hw, hsz, hcell⟩
    · cases h4
    simp only [Option.some.injEq] at h4
    subst h4
    rcases Nat.eq_zero_or_pos len with h0 | h0
    · subst h0
      exact zero _ a' cap he rfl rfl
    obtain rfl := ha (.inl h0)
    have hb3 : off * k + len * k ≤ rows.length * k := by rw [← Nat.add_mul]; exact Nat.mul_le_mul_right k hb
    have hz1 : ∀ j d, ds[j]? = some d → ∃ v, z.cells[j]? = some v ∧ RD F w d v := fun j d hj => by
      obtain ⟨y, hy, hdy⟩ := hd2 j d hj
      simp only [List.getElem?_map, Array.getElem?_toList, Option.map_eq_some_iff] at hy
      obtain ⟨v, hv, rfl⟩ := hy
      exact ⟨v, hv, dOf_sound hdy (leafConst_sound (E := E) v)⟩
    have hone : ∀ u ∈ (Builtin.zeroCells z.cells len).toList, u.oneCell' = true := fun u hu => by
      obtain ⟨j, hj⟩ := zeroCells_mem hu
      have hjk : j < ds.length := by have := (Array.getElem?_eq_some_iff.1 hj).1; omega
      obtain ⟨v, hv, hrd⟩ := hz1 j _ (List.getElem?_eq_getElem hjk)
      rw [hj] at hv
      cases hv
      exact hrd.one (List.all_eq_true.1 hlf _ (List.getElem_mem hjk))
    have hrun := run_clear (ty := ty) hu hi hz' b (off * k) len cap cs tt w hw (by rw [hzs]; omega) hone (by omega)
    have hlen : off * k + (Builtin.zeroCells z.cells len).toList.length ≤ cs.toList.length := by simp [size_zeroCells, hzs]; omega
    obtain ⟨hbl, hbF⟩ := hs.rel.hr.free id b _ _ hE rfl hH rfl
    have hbr := upd_rel hs.rel hE hH rfl rfl hw (cs' := (setL cs.toList (off * k) (Builtin.zeroCells z.cells len).toList).toArray) (blk' := .data k (setL rows off (List.replicate len ds))) (by rw [List.size_toArray, setL_len _ _ _ hlen, Array.length_toList]) ?_
    · exact done _ he _ hrun hbr.2 hbr.1
    have up : ∀ {x : D} {v : Value}, RD F w x v → RD F (w.setRow b (setL cs.toList (off * k) (Builtin.zeroCells z.cells len).toList).toArray) x v := fun h =>
      h.evo (fun _ h => h) (fun c hc => heap_setRow_other w b c _ (fun e => hbF (e ▸ hc)))
    have hrl : off + (List.replicate len ds).length ≤ rows.length := by simpa using hb
    have hget : ∀ (i : Nat) (row : List D), (setL rows off (List.replicate len ds))[i]? = some row → ((off ≤ i ∧ i < off + len) ∧ row = ds) ∨ (¬ (off ≤ i ∧ i < off + len) ∧ rows[i]? = some row) := fun i row hi => by
      rw [setL_get _ _ _ hrl, List.length_replicate] at hi
      split at hi
      · rename_i h
        rw [List.getElem?_replicate] at hi
        split at hi
        · simp at hi; exact .inl ⟨h, hi.symm⟩
        · cases hi
      · rename_i h
        exact .inr ⟨h, hi⟩
    refine ⟨rfl, by rw [setL_len _ _ _ hrl], fun i row hi => ?_, .inr ⟨b, _, tt, rfl, setRow_heap w b cs _ tt _ hw, ?_, fun i row j y hi hj => ?_⟩⟩
    · rcases hget i row hi with ⟨_, rfl⟩ | ⟨_, h⟩
      · exact ⟨hds, hlf⟩
      · exact h3 i row h
    · rw [setL_len _ _ _ hrl, List.size_toArray, setL_len _ _ _ hlen, Array.length_toList]
      exact hsz
    · simp only [List.getElem?_toArray]
      rw [setL_get _ _ _ hlen, show (Builtin.zeroCells z.cells len).toList.length = len * k by simp [size_zeroCells, hzs]]
      rcases hget i row hi with ⟨hin, rfl⟩ | ⟨hout, h⟩
      · have hj' : j < k := by have := (List.getElem?_eq_some_iff.1 hj).1; omega
        have e1 : off * k ≤ i * k := Nat.mul_le_mul_right k hin.1
        have e2 : (i + 1) * k ≤ (off + len) * k := Nat.mul_le_mul_right k (by omega)
        rw [Nat.add_mul, Nat.one_mul, Nat.add_mul] at e2
        rw [if_pos (by omega)]
        have e3 : i * k + j - off * k = (i - off) * k + j := by rw [Nat.sub_mul]; omega
        rw [e3, Array.getElem?_toList, zeroCells_get hzs (by omega) hj']
        obtain ⟨v, hv, hrd⟩ := hz1 j y hj
        exact ⟨v, hv, up hrd⟩
      · have hj' : j < k := by have := (List.getElem?_eq_some_iff.1 hj).1; have := (h3 i row h).1; omega
        have hne : ¬ (off * k ≤ i * k + j ∧ i * k + j < off * k + len * k) := by
          rintro ⟨h5, h6⟩
          rcases Nat.lt_or_ge i off with hlt | hge
          · have := Nat.mul_le_mul_right k (show i + 1 ≤ off from hlt)
            rw [Nat.add_mul, Nat.one_mul] at this
            omega
          · have := Nat.mul_le_mul_right k (show off + len ≤ i by omega)
            rw [Nat.add_mul] at this
            omega
        rw [if_neg hne]
        obtain ⟨uu, hu1, hu2⟩ := hcell i row j y h hj
        exact ⟨uu, by simpa using hu1, up hu2⟩
end Go.Aw
