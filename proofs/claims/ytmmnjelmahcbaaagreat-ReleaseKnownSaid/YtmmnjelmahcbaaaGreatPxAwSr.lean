/-
  Sorting an own row of numbers: from the library's contracts to a contract over own memory. Over any program; no condition.
-/
import Derived.Test.YtmmnjelmahcbaaaGreatPkD
namespace Go.Aw
set_option linter.unusedSimpArgs false
set_option linter.unusedVariables false
open Go.RowKit Go.Sort

def encI (x : Int) : List D := [.int .i64 x]
theorem encI_row {l : List Int} {row : List D} (h : row ∈ l.map encI) : row.length = 1 ∧ row.all D.leaf = true := by
  obtain ⟨x, _, rfl⟩ := List.mem_map.1 h; exact ⟨rfl, rfl⟩

theorem grow_heap (w : World) (os : Array Obj) {k : Nat} (hk : k < w.heap.size) : (grow w os).heap[k]? = w.heap[k]? := by
  simp only [grow]
  rw [Array.getElem?_append_left hk]

theorem ac_sort {P : Program} {f : FuncId} (hcall : callable P f) (xa : List D) (hxa : dVs (xa.map ofD) = some xa) (srt : List Int → List Int) (hlen : ∀ zs, (srt zs).length = zs.length)
    (h1 : ∀ (F : Nat → Prop) (ex : Array Value) (blk off cap : Nat) (zs : List Int) (w : World), CR [] F w (xa.map ofD) ex → (∀ b, F b → b < w.heap.size) → ¬ F blk → Holds (Value.int .i64) w blk off zs.toArray → blk < w.heap.size → zs.length < 4611686018427387904 →
      Calls P f (#[.slice (some ⟨blk, off, none⟩) zs.length cap] ++ ex) w fun e w' => e = .returned (.tuple #[]) ∧ ∃ n os, w' = grow (putRow (Value.int .i64) (Sort.ahead w n) blk off (srt zs).toArray) os)
    (h2 : ∀ (F : Nat → Prop) (ex : Array Value) (p : Option Addr) (cap : Nat) (w : World), CR [] F w (xa.map ofD) ex → Calls P f (#[.slice p 0 cap] ++ ex) w fun e w' => e = .returned (.tuple #[]) ∧ w' = w)
    (zs : List Int) (hz : zs.length < 4611686018427387904) : AC P f (.ref 0 0 zs.length :: xa.map ofD) [.data 1 (zs.map encI)] [0] fun x H => x = .tup [] ∧ H = [.data 1 ((srt zs).map encI)] := by
  refine ⟨hcall, fun w cargs E F hHR hlt hkp hcr => ?_⟩
  obtain ⟨hsz, hv⟩ := hcr
  obtain ⟨c0, ex, rfl⟩ : ∃ c0 ex, cargs = #[c0] ++ ex := by
    obtain ⟨l⟩ := cargs
    cases l with
    | nil => simp at hsz
    | cons a l => exact ⟨a, l.toArray, by simp⟩
  have v0 := hv 0 _ c0 rfl (by rw [Array.getElem?_append_left (by simp)]; rfl)
  have hex : CR [] F w (xa.map ofD) ex := by
    have := dVs_sound (E := E) (E' := []) (F := F) (w := w) (vs := ex.toList) hxa (by simp at hsz; simp; omega) (fun j x v hx hv' => by
      refine hv (j + 1) x v (by simpa using hx) ?_
      rw [Array.getElem?_append_right (by simp)]
      simpa using hv')
    simpa using this
  have start := Rel.start hHR hlt hkp
  have hElen := hHR.len
  simp only [List.length_cons, List.length_nil] at hElen
  obtain ⟨nz, hnz⟩ : ∃ n, zs.length = n := ⟨_, rfl⟩
  rw [hnz] at v0
  cases v0 with
  | refv _ k m a hE =>
    have hz0 : zs = [] := List.eq_nil_of_length_eq_zero hnz
    subst hz0
    have hs0 : srt [] = [] := List.eq_nil_of_length_eq_zero (hlen [])
    refine (h2 F ex a 0 w hex).mono ?_
    rintro e w' ⟨rfl, rfl⟩
    exact ⟨_, .tup [], _, E, F, rfl, ⟨rfl, by rw [hs0]⟩, start, .tup [] #[] rfl (by simp)⟩
  | ref _ _ _ b k m a cap n hE hm ha hl hb hc =>
    have hbr := hHR.blk 0 _ _ hE rfl
    obtain ⟨hk, hn, _, h4⟩ := hbr
    obtain ⟨hbl, hbF⟩ := hHR.free 0 b _ _ hE rfl rfl rfl
    rcases h4 with ⟨h5, _⟩ | ⟨b', cs, t, h5, hw, hcs, hcell⟩
    · cases h5
    simp only [Option.some.injEq] at h5
    subst h5
    obtain rfl : a = some ⟨b, 0, none⟩ := by simpa using ha (.inr rfl)
    subst hnz
    have hget : ∀ j (hj : j < zs.length), cs[j]? = some (.int .i64 zs[j]) := fun j hj => by
      obtain ⟨v, h6, h7⟩ := hcell j (encI zs[j]) 0 (.int .i64 zs[j]) (by simp [hj]) rfl
      cases h7
      simpa using h6
    have hH : Holds (Value.int .i64) w b 0 zs.toArray := fun j hj => by
      simp only [List.size_toArray] at hj
      refine ⟨?_, ?_⟩
      · rw [Nat.zero_add]
        simp only [World.cell?, hw]
        simp [hget j hj, hj]
      · rw [Nat.zero_add]
        simp [World.frozen?, hw]
    refine (h1 F ex b 0 cap zs w hex hlt hbF hH hbl hz).mono ?_
    rintro e w' ⟨rfl, q, os, rfl⟩
    have hbl2 : b < (putRow (Value.int .i64) (Sort.ahead w q) b 0 (srt zs).toArray).heap.size := by simpa using hbl
    have hw2 : (grow (putRow (Value.int .i64) (Sort.ahead w q) b 0 (srt zs).toArray) os).heap[b]? = some (.cells (putCells (Value.int .i64) 0 (srt zs).toArray cs) t (0, 0)) := by
      rw [grow_heap _ _ hbl2]
      simp only [putRow, mapBlock, heap_ahead]
      rw [Array.getElem?_modify, if_pos rfl, hw]
      rfl
    have hoth : ∀ c, c < w.heap.size → c ≠ b → (grow (putRow (Value.int .i64) (Sort.ahead w q) b 0 (srt zs).toArray) os).heap[c]? = w.heap[c]? := fun c hc hcb => by
      rw [grow_heap _ _ (by simpa using hc)]
      simp only [putRow, mapBlock, heap_ahead]
      rw [Array.getElem?_modify, if_neg (Ne.symm hcb)]
    have hput : ∀ j (hj : j < (srt zs).length), (putCells (Value.int .i64) 0 (srt zs).toArray cs)[j]? = some (.int .i64 (srt zs)[j]) := fun j hj => by
      have hjc : j < cs.size := by have := hlen zs; simp at hcs; omega
      simp only [putCells, Array.getElem?_mapIdx, Array.getElem?_eq_getElem hjc, Option.map_some]
      simp [hj]
    obtain ⟨evo, hrel⟩ := start.rewritten (w' := grow (putRow (Value.int .i64) (Sort.ahead w q) b 0 (srt zs).toArray) os) (i := 0) (blk' := .data 1 ((srt zs).map encI)) hE rfl rfl rfl hw hw2 (by simp [putCells]) rfl rfl ⟨rfl, by show w.drawn ≤ w.drawn + q; omega⟩ (by simp [grow]) hoth
      ⟨hk, by simp only [List.length_map] at hn ⊢; rw [hlen]; exact hn, fun i row hi => encI_row (List.mem_of_getElem? hi), .inr ⟨b, _, t, rfl, hw2, by simp only [List.length_map] at hcs ⊢; rw [hlen]; simpa [putCells] using hcs, fun i row j x hi hj => by
        simp only [List.getElem?_map, Option.map_eq_some_iff] at hi
        obtain ⟨z, hz', rfl⟩ := hi
        have hil := (List.getElem?_eq_some_iff.1 hz').1
        cases j with
        | zero =>
          simp only [encI, List.getElem?_cons_zero, Option.some.injEq] at hj
          subst hj
          refine ⟨_, by rw [Nat.mul_one, Nat.add_zero]; exact hput i hil, ?_⟩
          rw [(List.getElem?_eq_some_iff.1 hz').2]
          exact .int _ _
        | succ j => simp [encI] at hj⟩⟩
    exact ⟨_, .tup [], _, E, F, rfl, ⟨rfl, rfl⟩, hrel, .tup [] #[] rfl (by simp)⟩

end Go.Aw
