/-
  Texts of the library, one behind the other. Over any program; no condition.
-/
import Derived.Shelf.SlSortCmp.NoneTotal
import Derived.Test.YtecindhbaekncaaPkD
namespace Go.Aw
set_option linter.unusedSimpArgs false
set_option linter.unusedVariables false
open Go.RowKit

theorem rng_getD {n i : Nat} (h : i < n) : (List.range n).getD i 0 = i := by
  rw [List.getD_eq_getElem?_getD, List.getElem?_range h]; rfl
mutual
theorem ren_idV (n : Nat) : ∀ (x : V), V.bel n x = true → V.ren (List.range n) x = x
  | .d _, _ => rfl
  | .agg xs, h => by simp only [V.ren]; rw [ren_idL n xs (by simpa [V.bel] using h)]
  | .tup xs, h => by simp only [V.ren]; rw [ren_idL n xs (by simpa [V.bel] using h)]
  | .ptr id _ _, h => by simp only [V.ren]; rw [rng_getD (by simpa [V.bel] using h)]
  | .ref id _ _, h => by simp only [V.ren]; rw [rng_getD (by simpa [V.bel] using h)]
  | .nil, _ => rfl
  | .fn _ xs, h => by simp only [V.ren]; rw [ren_idL n xs (by simpa [V.bel] using h)]
  | .map id, h => by simp only [V.ren]; rw [rng_getD (by simpa [V.bel] using h)]
  | .iface _ x, h => by simp only [V.ren]; rw [ren_idV n x (by simpa [V.bel] using h)]
  | .opt _ x, h => by simp only [V.ren]; rw [ren_idV n x (by simpa [V.bel] using h)]
  | .junk, _ => rfl
theorem ren_idL (n : Nat) : ∀ (xs : List V), V.belL n xs = true → V.renL (List.range n) xs = xs
  | [], _ => rfl
  | x :: xs, h => by
    simp only [V.belL, Bool.and_eq_true] at h
    simp only [V.renL]
    rw [ren_idV n x h.1, ren_idL n xs h.2]
end
theorem ren_idB (n : Nat) (b : Blk) (h : Blk.bel n b = true) : Blk.ren (List.range n) b = b := by
  cases b with
  | cells xs => simp only [Blk.ren]; rw [ren_idL n xs (by simpa [Blk.bel] using h)]
  | vrs k rs =>
    simp only [Blk.ren]
    congr 1
    rw [List.map_congr_left (g := id), List.map_id]
    intro r hr
    simp only [Blk.bel, List.all_eq_true] at h
    exact ren_idL n r (h r hr)
  | mp es =>
    simp only [Blk.ren]
    congr 1
    rw [List.map_congr_left (g := id), List.map_id]
    intro p hp
    simp only [Blk.bel, List.all_eq_true, Bool.and_eq_true] at h
    obtain ⟨h1, h2⟩ := h p hp
    simp only [ren_idV n _ h1, ren_idV n _ h2, id]
  | it x seen m => simp only [Blk.ren]; rw [ren_idV n x (by simpa [Blk.bel] using h)]
  | _ => rfl
theorem ren_idT (n : Nat) : ∀ (l : List (Nat × V)), belTm n l = true → renTm (List.range n) l = l
  | [], _ => rfl
  | (i, x) :: l, h => by
    simp only [belTm, Bool.and_eq_true] at h
    simp only [renTm]
    rw [ren_idV n x h.1, ren_idT n l h.2]
theorem ren_keep {H X : List Blk} {tm tm' : List (Nat × V)} (hb : ∀ b, b ∈ H → Blk.bel H.length b = true) (bt : belTm H.length tm' = true) (ht : subTm tm' tm) : Ren [] (List.range H.length) ⟨tm', H⟩ ⟨tm, H ++ X⟩ := by
  refine ren_of List.nodup_range (by simp) (fun j b hj => ?_) ?_ (by simpa using bt) (by simpa using hb)
  · have hlt := (List.getElem?_eq_some_iff.1 hj).1
    refine ⟨j, List.getElem?_range hlt, ?_⟩
    rw [ren_idB _ b (hb b (List.mem_of_getElem? hj))]
    show (H ++ X)[j]? = some b
    rw [List.getElem?_append_left hlt]
    exact hj
  · show subTm (renTm (List.range H.length) tm') tm
    rw [ren_idT _ _ bt]
    exact ht
end Go.Aw

namespace Go.Aw
set_option linter.unusedSimpArgs false
set_option linter.unusedVariables false
open Go.RowKit Go.Sort

def encI (x : Int) : List D := [.int .i64 x]
theorem grow_heap (w : World) (os : Array Obj) {k : Nat} (hk : k < w.heap.size) : (grow w os).heap[k]? = w.heap[k]? := by
  simp only [grow]
  rw [Array.getElem?_append_left hk]

end Go.Aw

namespace Go.Aw
set_option linter.unusedSimpArgs false
set_option linter.unusedVariables false
open Go.RowKit Go.Sort Go.Proofs Go.Shelf

/-- Give up, ahead of the code, all that a value speaks of. -/
theorem awp_fz {P : Program} {kp : List Nat} {n : Nat} {s : St} {Q : Exit → St → Prop} {c : Code} (x : V) (h : AWP P kp n c (s.fz 3 x) Q) : AWP P kp n c s Q := by
  intro hok B a w E F h1 h2 h3
  obtain ⟨F', h4⟩ := fz_sim 3 s x F h3
  exact h hok B a w E F' h1 h2 h4
end Go.Aw

namespace Go.Aw
set_option linter.unusedSimpArgs false
set_option linter.unusedVariables false
open Go.RowKit Go.Sort Go.Proofs Go.Shelf

section
variable {α : Type} (en : α → List Int)
def enV (x : α) : List Value := (en x).map (Value.int .i64)
def enD (x : α) : List D := (en x).map (D.int .i64)
theorem enD_row {l : List α} {row : List D} {k : Nat} (hk : ∀ x, (en x).length = k) (h : row ∈ l.map (enD en)) : row.length = k ∧ row.all D.leaf = true := by
  obtain ⟨x, _, rfl⟩ := List.mem_map.1 h
  refine ⟨by simp [enD, hk], ?_⟩
  rw [List.all_eq_true]
  intro y hy
  obtain ⟨n, _, rfl⟩ := List.mem_map.1 hy
  rfl

theorem ac_sortKat [Inhabited α] {P : Program} {f : FuncId} (hcall : callable P f) (xa : List D) (hxa : dVs (xa.map ofD) = some xa) (k : Nat) (hk : ∀ x, (en x).length = k) (hk0 : 0 < k) (srt : List α → List α) (hlen : ∀ zs, (srt zs).length = zs.length)
    (h1 : ∀ (F : Nat → Prop) (ex : Array Value) (blk off cap : Nat) (zs : List α) (w : World), CR [] F w (xa.map ofD) ex → (∀ b, F b → b < w.heap.size) → ¬ F blk → HoldsK (enV en) k w blk off zs.toArray → blk < w.heap.size → zs.length < 4611686018427387904 →
      Calls P f (#[.slice (some ⟨blk, off, none⟩) zs.length cap] ++ ex) w fun e w' => e = .returned (.tuple #[]) ∧ ∃ n os, w' = grow (putRowK (enV en) k (Sort.ahead w n) blk off (srt zs).toArray) os)
    (h2 : ∀ (F : Nat → Prop) (ex : Array Value) (p : Option Addr) (cap : Nat) (w : World), CR [] F w (xa.map ofD) ex → Calls P f (#[.slice p 0 cap] ++ ex) w fun e w' => e = .returned (.tuple #[]) ∧ w' = w)
    (zs : List α) (hz : zs.length < 4611686018427387904) (id : Nat) (H : List Blk) (kp : List Nat) (hid : H[id]? = some (.data k (zs.map (enD en)))) : AC P f (.ref id 0 zs.length :: xa.map ofD) H kp fun x H' => x = .tup [] ∧ H' = H.set id (.data k ((srt zs).map (enD en))) := by
  refine ⟨hcall, fun w cargs E F hHR hlt hkp hcr => ?_⟩
  obtain ⟨hsz, hv⟩ := hcr
  obtain ⟨c0, ex, rfl⟩ : ∃ c0 ex, cargs = #[c0] ++ ex := by
    obtain ⟨l⟩ := cargs
    cases l with
    | nil => simp at hsz
    | cons a l => exact ⟨a, l.toArray, by simp⟩
  have v0 := hv 0 _ c0 rfl (by rw [Array.getElem?_append_left (by simp)]; rfl)
  have hex : CR [] F w (xa.map ofD) ex := by
    have := dVs_sound (E := E) (E' := []) (F := F) (w := w) (vs := ex.toList) hxa (by simp at hsz; simp; omega) (fun j x v hx hv' => by
      refine hv (j + 1) x v (by simpa using hx) ?_
      rw [Array.getElem?_append_right (by simp)]
      simpa using hv')
    simpa using this
  have start := Rel.start hHR hlt hkp
  have hElen := hHR.len
  obtain ⟨nz, hnz⟩ : ∃ n, zs.length = n := ⟨_, rfl⟩
  rw [hnz] at v0
  have hset : zs = [] → H.set id (.data k ((srt zs).map (enD en))) = H := fun h0 => by
    subst h0
    rw [List.eq_nil_of_length_eq_zero (hlen [])]
    exact List.ext_getElem? fun j => by
      rw [List.getElem?_set]
      by_cases h : id = j
      · subst h; rw [if_pos rfl, hid, if_pos (List.getElem?_eq_some_iff.1 hid).1]
      · rw [if_neg h]
  cases v0 with
  | refv _ k m a hE =>
    have hz0 : zs = [] := List.eq_nil_of_length_eq_zero hnz
    subst hz0
    have hs0 : srt [] = [] := List.eq_nil_of_length_eq_zero (hlen [])
    refine (h2 F ex a 0 w hex).mono ?_
    rintro e w' ⟨rfl, rfl⟩
    exact ⟨_, .tup [], _, E, F, rfl, ⟨rfl, rfl⟩, by rw [hset rfl]; exact start, .tup [] #[] rfl (by simp)⟩
  | ref _ _ _ b k' m a cap n hE hm ha hl hb hc =>
    have hbr := hHR.blk id _ _ hE hid
    obtain ⟨hkk, hn, hrw, h4⟩ := hbr
    obtain ⟨hbl, hbF⟩ := hHR.free id b _ _ hE rfl hid rfl
    rcases h4 with ⟨h5, _⟩ | ⟨b', cs, t, h5, hw, hcs, hcell⟩
    · cases h5
    simp only [Option.some.injEq] at h5
    subst h5
    have hkk : k' = k := hkk
    subst hkk
    obtain rfl : a = some ⟨b, 0, none⟩ := by simpa using ha (.inr rfl)
    subst hnz
    have hget : ∀ j (hj : j < zs.length) i (hi : i < k'), cs[j * k' + i]? = some (.int .i64 ((en zs[j])[i]'(by rw [hk]; exact hi))) := fun j hj i hi => by
      obtain ⟨v, h6, h7⟩ := hcell j (enD en zs[j]) i (.int .i64 ((en zs[j])[i]'(by rw [hk]; exact hi))) (by simp [hj]) (by simp [enD, hk, hi])
      cases h7
      simpa using h6
    have hflat : ∀ (ys : List α) (t : Nat) (ht : t < ys.length * k'), (flatK (enV en) k' ys.toArray)[t]! = .int .i64 ((en (ys[t / k']'(Nat.div_lt_of_lt_mul (by rw [Nat.mul_comm]; exact ht))))[t % k']'(by rw [hk]; exact Nat.mod_lt _ hk0)) := fun ys t ht => by
      have hq : t / k' < ys.length := Nat.div_lt_of_lt_mul (by rw [Nat.mul_comm]; exact ht)
      have hr : t % k' < k' := Nat.mod_lt _ hk0
      rw [get_flatK _ _ _ _ (by simpa using ht)]
      rw [getElem!_pos (ys.toArray) (t / k') (by simpa using hq)]
      rw [getElem!_pos _ (t % k') (by simp [enV, hk, hr])]
      simp [enV]
    have hH : HoldsK (enV en) k' w b 0 zs.toArray := fun j hj => by
      have hj2 : j < zs.length * k' := by simpa using hj
      have hq : j / k' < zs.length := Nat.div_lt_of_lt_mul (by rw [Nat.mul_comm]; exact hj2)
      have hr : j % k' < k' := Nat.mod_lt _ hk0
      have hg := hget (j / k') hq (j % k') hr
      rw [Nat.div_add_mod'] at hg
      refine ⟨?_, ?_⟩
      · rw [Nat.zero_add, hflat zs j hj2]
        simp only [World.cell?, hw]
        simp [hg]
      · rw [Nat.zero_add]
        simp [World.frozen?, hw]
    refine (h1 F ex b 0 cap zs w hex hlt hbF hH hbl hz).mono ?_
    rintro e w' ⟨rfl, q, os, rfl⟩
    have hbl2 : b < (putRowK (enV en) k' (Sort.ahead w q) b 0 (srt zs).toArray).heap.size := by simpa [putRowK] using hbl
    have hw2 : (grow (putRowK (enV en) k' (Sort.ahead w q) b 0 (srt zs).toArray) os).heap[b]? = some (.cells (putCells (fun v => v) 0 (flatK (enV en) k' (srt zs).toArray) cs) t (0, 0)) := by
      rw [grow_heap _ _ hbl2]
      simp only [putRowK, putRow, mapBlock, heap_ahead]
      rw [Array.getElem?_modify, if_pos rfl, hw]
      rfl
    have hoth : ∀ c, c < w.heap.size → c ≠ b → (grow (putRowK (enV en) k' (Sort.ahead w q) b 0 (srt zs).toArray) os).heap[c]? = w.heap[c]? := fun c hc hcb => by
      rw [grow_heap _ _ (by simpa [putRowK] using hc)]
      simp only [putRowK, putRow, mapBlock, heap_ahead]
      rw [Array.getElem?_modify, if_neg (Ne.symm hcb)]
    have hsl := hlen zs
    have hcs2 : zs.length * k' ≤ cs.size := by simpa using hcs
    have hput : ∀ j (hj : j < (srt zs).length) i (hi : i < k'), (putCells (fun v => v) 0 (flatK (enV en) k' (srt zs).toArray) cs)[j * k' + i]? = some (.int .i64 ((en (srt zs)[j])[i]'(by rw [hk]; exact hi))) := fun j hj i hi => by
      have hlt2 : j * k' + i < (srt zs).length * k' := by
        have : (j + 1) * k' ≤ (srt zs).length * k' := Nat.mul_le_mul_right _ hj
        rw [Nat.add_mul, Nat.one_mul] at this
        omega
      have hjc : j * k' + i < cs.size := by rw [hsl] at hlt2; omega
      have hd : (j * k' + i) / k' = j := by rw [Nat.mul_comm, Nat.mul_add_div hk0, Nat.div_eq_of_lt hi, Nat.add_zero]
      have hm : (j * k' + i) % k' = i := by rw [Nat.mul_comm, Nat.mul_add_mod, Nat.mod_eq_of_lt hi]
      have hf := hflat (srt zs) (j * k' + i) hlt2
      simp only [putCells, Array.getElem?_mapIdx, Array.getElem?_eq_getElem hjc, Option.map_some]
      simp only [Nat.zero_le, Nat.sub_zero, size_flatK, List.size_toArray, Nat.zero_add, hlt2, and_self, if_true, true_and]
      rw [hf]
      simp only [hd, hm]
    obtain ⟨evo, hrel⟩ := start.rewritten (w' := grow (putRowK (enV en) k' (Sort.ahead w q) b 0 (srt zs).toArray) os) (i := id) (blk' := .data k' ((srt zs).map (enD en))) hE hid rfl rfl hw hw2 (by simp [putCells]) rfl rfl ⟨rfl, by show w.drawn ≤ w.drawn + q; omega⟩ (by simp [grow, putRowK]) hoth
      ⟨rfl, by simp only [List.length_map] at hn ⊢; rw [hlen]; exact hn, fun i row hi => enD_row en hk (List.mem_of_getElem? hi), .inr ⟨b, _, t, rfl, hw2, by simp only [List.length_map] at hcs ⊢; rw [hlen]; simpa [putCells] using hcs, fun i row j x hi hj => by
        simp only [List.getElem?_map, Option.map_eq_some_iff] at hi
        obtain ⟨z, hz', rfl⟩ := hi
        obtain ⟨hil, rfl⟩ := List.getElem?_eq_some_iff.1 hz'
        have hj1 : j < k' := by
          have := (List.getElem?_eq_some_iff.1 hj).1
          simpa [enD, hk] using this
        have hx : x = .int .i64 ((en (srt zs)[i])[j]'(by rw [hk]; exact hj1)) := by
          have := (List.getElem?_eq_some_iff.1 hj).2
          simpa [enD] using this.symm
        subst hx
        exact ⟨_, hput i hil j hj1, .int _ _⟩⟩⟩
    exact ⟨_, .tup [], _, E, F, rfl, ⟨rfl, rfl⟩, hrel, .tup [] #[] rfl (by simp)⟩

theorem enD_vr (E : Env) (F : Nat → Prop) (w : World) (x : α) : VR E F w (ofD (.agg (enD en x))) (.agg (enV en x).toArray) := by
  refine .agg _ _ (by simp [enV, enD]) fun j y v hy hv => ?_
  simp only [enD, List.map_map, List.getElem?_map, Option.map_eq_some_iff] at hy
  obtain ⟨n, hn, rfl⟩ := hy
  simp only [enV, List.getElem?_toArray, List.getElem?_map, hn, Option.map_some, Option.some.injEq] at hv
  subst hv
  exact .d _ _ (.int _ _)
theorem cmp_laysK [Inhabited α] {P : Program} {g : FuncId} {cf : α → α → Int} (hpd : ∀ x y, PD P g [.agg (enD en x), .agg (enD en y)] (.d (.int .i64 (cf x y)))) {w : World} {blk off size : Nat} (k : Nat) :
    CmpLays P g #[] (enV en) k cf blk off size w := by
  intro m os dk hs x y
  have hc : CR [] (fun _ => False) (sortWorldK (enV en) k w blk off m dk os) ([D.agg (enD en x), D.agg (enD en y)].map ofD) (#[Value.agg (enV en x).toArray, Value.agg (enV en y).toArray] ++ #[]) := by
    refine ⟨by simp, fun j z v hz hv => ?_⟩
    match j with
    | 0 => simp at hz hv; subst hz hv; exact enD_vr en _ _ _ x
    | 1 => simp at hz hv; subst hz hv; exact enD_vr en _ _ _ y
    | j + 2 => simp at hz
  refine (pd_grown (hpd x y) (fun _ h => h.elim) hc).mono ?_
  rintro e W' ⟨⟨v, E', F', rfl, hv⟩, hg⟩
  refine ⟨?_, hg⟩
  cases hv with
  | d _ _ hv => cases hv; rfl
end
end Go.Aw

namespace Go.Aw
set_option linter.unusedSimpArgs false
set_option linter.unusedVariables false
open Go.RowKit Go.Sort Go.Proofs Go.Shelf

/-- A row of data with its values in a world. -/
def RowV (F : Nat → Prop) (w : World) (k : Nat) (good : List D → Prop) : Type :=
  { p : List D × List Value // p.1.length = k ∧ p.2.length = k ∧ good p.1 ∧ (∀ v ∈ p.2, v.oneCell' = true) ∧ ∀ (j : Nat) (x : D) (v : Value), p.1[j]? = some x → p.2[j]? = some v → RD F w x v }

theorem sw_heap {α : Type} [Inhabited α] {enc : α → List Value} {k : Nat} {w : World} {blk off m : Nat} {dk : Array α} {os : Array Obj} {c : Nat} (hc : c < w.heap.size) (hcb : c ≠ blk) : (sortWorldK enc k w blk off m dk os).heap[c]? = w.heap[c]? := by
  unfold sortWorldK
  rw [grow_heap _ _ (by simpa [putRowK] using hc)]
  simp only [putRowK, putRow, mapBlock, heap_ahead]
  rw [Array.getElem?_modify, if_neg (Ne.symm hcb)]
theorem sw_size {α : Type} [Inhabited α] {enc : α → List Value} {k : Nat} {w : World} {blk off m : Nat} {dk : Array α} {os : Array Obj} : w.heap.size ≤ (sortWorldK enc k w blk off m dk os).heap.size := by
  unfold sortWorldK
  simp [grow, putRowK]

theorem ac_sortD {P : Program} {f g : FuncId} {ρ : Go.Shelf.Ren} (hcall : callable P f) (L : SlLaysF0.n6 P ρ) (hf : ρ.f 6 = f) (k : Nat) (hk0 : 0 < k)
    (aE : ∀ w, (isAgg (ρ.t 24)).run P w = .ok true w) (zE : ∀ w, (Go.sizeOf (ρ.t 24)).run P w = .ok k w) (eg : ∀ args w, (callFunc g args).run P w = .ok (.enter g args) w)
    (good : List D → Prop) (key : List D → Int) (cf : List D → List D → Int) (hcf : ∀ x y, good x → good y → (cf x y < 0 ↔ key x < key y))
    (hpd : ∀ x y, good x → good y → PD P g [.agg x, .agg y] (.d (.int .i64 (cf x y))))
    (rows : List (List D)) (hg : ∀ r, r ∈ rows → good r) (hz : rows.length < 4611686018427387904) :
    AC P f [.ref 0 0 rows.length, .d (.fn (.func g) [])] [.data k rows] [0] fun x H => x = .tup [] ∧ ∃ rows' : List (List D), rows'.Perm rows ∧ (rows'.Pairwise fun a b => key a ≤ key b) ∧ H = [.data k rows'] := by
  subst hf
  refine ⟨hcall, fun w cargs E F hHR hlt hkp hcr => ?_⟩
  obtain ⟨hsz, hv⟩ := hcr
  obtain ⟨c0, c1, rfl⟩ : ∃ c0 c1, cargs = #[c0, c1] := by
    obtain ⟨l⟩ := cargs
    match l, hsz with
    | [a, b], _ => exact ⟨a, b, rfl⟩
  have v0 := hv 0 _ c0 rfl rfl
  have v1 := hv 1 _ c1 rfl rfl
  obtain rfl : c1 = .func (.func g) #[] #[] := by
    cases v1 with
    | d _ _ h =>
      cases h with
      | fn _ _ cs hs _ =>
        obtain rfl : cs = #[] := Array.size_eq_zero_iff.1 hs
        rfl
  have start := Rel.start hHR hlt hkp
  have hElen := hHR.len
  simp only [List.length_cons, List.length_nil] at hElen
  obtain ⟨nz, hnz⟩ : ∃ n, rows.length = n := ⟨_, rfl⟩
  rw [hnz] at v0
  cases v0 with
  | refv _ k m a hE =>
    obtain rfl : rows = [] := List.eq_nil_of_length_eq_zero hnz
    refine (AnyF.slices_SortFunc_none L a 0 (.func (.func g) #[] #[]) w).mono ?_
    rintro e w' ⟨rfl, rfl⟩
    exact ⟨_, .tup [], _, E, F, rfl, ⟨rfl, [], .refl _, .nil, rfl⟩, start, .tup [] #[] rfl (by simp)⟩
  | ref _ _ _ b k' m a cap n hE hm ha hl hb hc =>
    by_cases hr0 : rows = []
    · subst hr0
      obtain rfl : nz = 0 := hnz.symm
      refine (AnyF.slices_SortFunc_none L a cap (.func (.func g) #[] #[]) w).mono ?_
      rintro e w' ⟨rfl, rfl⟩
      exact ⟨_, .tup [], _, E, F, rfl, ⟨rfl, [], .refl _, .nil, rfl⟩, start, .tup [] #[] rfl (by simp)⟩
    have hbr := hHR.blk 0 _ _ hE rfl
    obtain ⟨hkk, hn, hrw, h4⟩ := hbr
    obtain ⟨hbl, hbF⟩ := hHR.free 0 b _ _ hE rfl rfl rfl
    rcases h4 with ⟨h5, _⟩ | ⟨b', cs, t, h5, hw, hcs, hcell⟩
    · cases h5
    simp only [Option.some.injEq] at h5
    subst h5
    have hkk : k' = k := hkk
    subst hkk
    obtain rfl : a = some ⟨b, 0, none⟩ := by simpa using ha (.inr rfl)
    subst hnz
    -- the elements
    have elx : ∀ i (hi : i < rows.length), ∃ vs : List Value, vs.length = k' ∧ (∀ j, j < k' → cs[i * k' + j]? = vs[j]?) ∧ (∀ v ∈ vs, v.oneCell' = true) ∧ ∀ (j : Nat) (x : D) (v : Value), (rows[i])[j]? = some x → vs[j]? = some v → RD F w x v := fun i hi => by
      obtain ⟨hrl, hlf⟩ := hrw i rows[i] (List.getElem?_eq_getElem hi)
      have hex : ∀ j, j < k' → ∃ v, cs[i * k' + j]? = some v ∧ v.oneCell' = true ∧ ∀ x, (rows[i])[j]? = some x → RD F w x v := fun j hj => by
        obtain ⟨v, h6, h7⟩ := hcell i rows[i] j _ (List.getElem?_eq_getElem hi) (List.getElem?_eq_getElem (by omega : j < (rows[i]).length))
        have hlfj : D.leaf ((rows[i])[j]'(by omega)) = true := (List.all_eq_true.1 hlf) _ (List.getElem_mem _)
        refine ⟨v, by simpa using h6, ?_, fun x hx => ?_⟩
        · revert h7 hlfj
          generalize (rows[i])[j]'(by omega) = y
          intro h7 hlfj
          cases h7 <;> first | rfl | (simp [D.leaf] at hlfj)
        · obtain ⟨_, rfl⟩ := List.getElem?_eq_some_iff.1 hx
          exact h7
      refine ⟨(List.range k').map fun j => (cs[i * k' + j]?).getD undef, by simp, fun j hj => ?_, fun v hv => ?_, fun j x v hx hv => ?_⟩
      · obtain ⟨v, h6, _⟩ := hex j hj
        rw [List.getElem?_map, List.getElem?_range hj, Option.map_some, h6]; rfl
      · obtain ⟨j, hj, rfl⟩ := List.mem_map.1 hv
        obtain ⟨v, h6, h7, _⟩ := hex j (List.mem_range.1 hj)
        rw [h6]; exact h7
      · have hj : j < k' := by have := (List.getElem?_eq_some_iff.1 hx).1; omega
        obtain ⟨u, h6, _, h8⟩ := hex j hj
        rw [List.getElem?_map, List.getElem?_range hj, Option.map_some, h6] at hv
        obtain rfl : u = v := by simpa using hv
        exact h8 x hx
    have els : ∃ L : List (RowV F w k' good), L.length = rows.length ∧ (∀ i (hi : i < rows.length) (hi2 : i < L.length), L[i].1.1 = rows[i] ∧ ∀ j, j < k' → cs[i * k' + j]? = L[i].1.2[j]?) := by
      have key : ∀ m (hm : m ≤ rows.length), ∃ L : List (RowV F w k' good), L.length = m ∧ (∀ i (hi : i < m) (hi2 : i < L.length), L[i].1.1 = rows[i]'(by omega) ∧ ∀ j, j < k' → cs[i * k' + j]? = L[i].1.2[j]?) := fun m => by
        induction m with
        | zero => exact fun _ => ⟨[], rfl, fun i hi => absurd hi (Nat.not_lt_zero _)⟩
        | succ m ih =>
          intro hm
          obtain ⟨L, h1, h2⟩ := ih (by omega)
          obtain ⟨vs, q1, q2, q3, q4⟩ := elx m (by omega)
          refine ⟨L ++ [⟨(rows[m], vs), (hrw m rows[m] (List.getElem?_eq_getElem (by omega))).1, q1, hg _ (List.getElem_mem _), q3, q4⟩], by rw [List.length_append, h1]; rfl, fun i hi hi2 => ?_⟩
          rcases Nat.lt_or_ge i m with h3 | h3
          · rw [List.getElem_append_left (by omega)]
            exact h2 i h3 (by omega)
          · obtain rfl : i = m := by omega
            rw [List.getElem_append_right (by omega)]
            simp only [h1, Nat.sub_self, List.getElem_cons_zero]
            exact ⟨rfl, q2⟩
      exact key rows.length (Nat.le_refl _)
    obtain ⟨els, hel, hels⟩ := els
    have hrpos : 0 < rows.length := List.length_pos_iff.2 hr0
    haveI : Inhabited (RowV F w k' good) := ⟨els[0]'(by omega)⟩
    have henl : ∀ p : RowV F w k' good, p.1.2.length = k' := fun p => p.2.2.1
    have hflat : ∀ (ys : List (RowV F w k' good)) (t : Nat) (ht : t < ys.length * k'), (flatK (fun p : RowV F w k' good => p.1.2) k' ys.toArray)[t]! = (ys[t / k']'(Nat.div_lt_of_lt_mul (by rw [Nat.mul_comm]; exact ht))).1.2[t % k']'(by rw [henl]; exact Nat.mod_lt _ hk0) := fun ys t ht => by
      have hq : t / k' < ys.length := Nat.div_lt_of_lt_mul (by rw [Nat.mul_comm]; exact ht)
      have hr : t % k' < k' := Nat.mod_lt _ hk0
      rw [get_flatK _ _ _ _ (by simpa using ht)]
      rw [getElem!_pos (ys.toArray) (t / k') (by simpa using hq)]
      rw [getElem!_pos _ (t % k') (by simp [henl, hr])]
      simp
    have hH : HoldsK (fun p : RowV F w k' good => p.1.2) k' w b 0 els.toArray := fun j hj => by
      have hj2 : j < els.length * k' := by simpa using hj
      have hq : j / k' < els.length := Nat.div_lt_of_lt_mul (by rw [Nat.mul_comm]; exact hj2)
      have hr : j % k' < k' := Nat.mod_lt _ hk0
      have hgt := (hels (j / k') (by omega) hq).2 (j % k') hr
      rw [Nat.div_add_mod', List.getElem?_eq_getElem (by rw [henl]; exact hr)] at hgt
      refine ⟨?_, ?_⟩
      · rw [Nat.zero_add, hflat els j hj2]
        simp only [World.cell?, hw]
        simp [hgt]
      · rw [Nat.zero_add]
        simp [World.frozen?, hw]
    have hlto : ∀ x y : RowV F w k' good, ltOf (fun x y : RowV F w k' good => cf x.1.1 y.1.1) x y = decide (key x.1.1 < key y.1.1) := fun x y => by
      simp only [ltOf, hcf _ _ x.2.2.2.1 y.2.2.2.1]
    have hO : SWO (ltOf (fun x y : RowV F w k' good => cf x.1.1 y.1.1)) :=
      ⟨fun x => by rw [hlto]; simp, fun x y z h1 h2 => by rw [hlto] at *; simp only [decide_eq_true_eq] at *; omega, fun x y z h1 h2 => by rw [hlto] at *; simp only [decide_eq_false_iff_not] at *; omega⟩
    have hcmp : CmpLays P g #[] (fun p : RowV F w k' good => p.1.2) k' (fun x y => cf x.1.1 y.1.1) b 0 els.toArray.size w := by
      intro m os dk hs x y
      have hsame : ∀ c, F c → (sortWorldK (fun p : RowV F w k' good => p.1.2) k' w b 0 m dk os).heap[c]? = w.heap[c]? := fun c hc => sw_heap (hlt c hc) (fun e => hbF (e ▸ hc))
      have hrd : ∀ (z : RowV F w k' good), VR [] F (sortWorldK (fun p : RowV F w k' good => p.1.2) k' w b 0 m dk os) (ofD (.agg z.1.1)) (.agg z.1.2.toArray) := fun z => by
        refine .agg _ _ (by simp [z.2.1, z.2.2.1]) fun j y v hy hv => ?_
        simp only [List.getElem?_map, Option.map_eq_some_iff] at hy
        obtain ⟨d, hd, rfl⟩ := hy
        exact .d _ _ ((z.2.2.2.2.2 j d v hd (by simpa using hv)).evo (fun _ h => h) hsame)
      have hc : CR [] F (sortWorldK (fun p : RowV F w k' good => p.1.2) k' w b 0 m dk os) ([D.agg x.1.1, D.agg y.1.1].map ofD) (#[Value.agg x.1.2.toArray, Value.agg y.1.2.toArray] ++ #[]) := by
        refine ⟨by simp, fun j z v hz hv => ?_⟩
        match j with
        | 0 => simp at hz hv; subst hz hv; exact hrd x
        | 1 => simp at hz hv; subst hz hv; exact hrd y
        | j + 2 => simp at hz
      refine (pd_grown (hpd _ _ x.2.2.2.1 y.2.2.2.1) (fun c hc => Nat.lt_of_lt_of_le (hlt c hc) sw_size) hc).mono ?_
      rintro e W' ⟨⟨v, E', F', rfl, hv⟩, hg⟩
      refine ⟨?_, hg⟩
      cases hv with
      | d _ _ hv => cases hv; rfl
    have hres := AnyQ.slices_SortFunc L k' aE zE (fun p : RowV F w k' good => p.1.2) henl (fun p => p.2.2.2.2.1) (fun x y => cf x.1.1 y.1.1) hO g #[] b 0 cap els.toArray w eg hcmp hH hbl (by simpa [hel] using hz)
    rw [show els.toArray.size = rows.length by simpa using hel] at hres
    refine hres.mono ?_
    rintro e w' ⟨rfl, d', q, os, hP, hS, rfl⟩
    obtain ⟨hds, _, hperm⟩ := hP
    have hdn : d'.size = rows.length := by rw [hds]; simpa using hel
    have hperm : d'.toList.Perm els := by
      rw [show d'.extract 0 rows.length = d' by rw [← hdn]; exact Array.extract_size, show els.toArray.extract 0 rows.length = els.toArray by rw [← hel]; exact Array.extract_size] at hperm
      exact hperm
    have hrowsE : els.map (fun p => p.1.1) = rows := List.ext_getElem (by simp [hel]) fun i h1 h2 => by
      rw [List.getElem_map]
      exact (hels i h2 (by omega)).1
    obtain ⟨R, hR⟩ : ∃ R, R = d'.toList.map fun p : RowV F w k' good => p.1.1 := ⟨_, rfl⟩
    have hRp : R.Perm rows := by rw [hR, ← hrowsE]; exact hperm.map _
    have hRl : R.length = rows.length := hRp.length_eq
    have hRs : R.Pairwise fun a b => key a ≤ key b := by
      rw [hR, List.pairwise_map, List.pairwise_iff_getElem]
      intro i j hi hj hij
      have hi' : i < d'.size := by simpa using hi
      have hj' : j < d'.size := by simpa using hj
      have := hS i j (Nat.zero_le _) hij (by omega)
      rw [getElem!_pos d' j hj', getElem!_pos d' i hi', hlto, decide_eq_false_iff_not] at this
      simp only [Array.getElem_toList]
      omega
    have hbl2 : b < (putRowK (fun p : RowV F w k' good => p.1.2) k' (Sort.ahead w q) b 0 d').heap.size := by simpa [putRowK] using hbl
    have hw2 : (sortWorldK (fun p : RowV F w k' good => p.1.2) k' w b 0 q d' os).heap[b]? = some (.cells (putCells id 0 (flatK (fun p : RowV F w k' good => p.1.2) k' d') cs) t (0, 0)) := by
      unfold sortWorldK
      rw [grow_heap _ _ hbl2]
      simp only [putRowK, putRow, mapBlock, heap_ahead]
      rw [Array.getElem?_modify, if_pos rfl, hw]
      rfl
    have hcs2 : rows.length * k' ≤ cs.size := by simpa using hcs
    have hput : ∀ i (hi : i < d'.size) j (hj : j < k'), (putCells id 0 (flatK (fun p : RowV F w k' good => p.1.2) k' d') cs)[i * k' + j]? = (d'[i]).1.2[j]? := fun i hi j hj => by
      have hlt2 : i * k' + j < d'.size * k' := by
        have : (i + 1) * k' ≤ d'.size * k' := Nat.mul_le_mul_right _ hi
        rw [Nat.add_mul, Nat.one_mul] at this
        omega
      have hjc : i * k' + j < cs.size := by rw [hdn] at hlt2; omega
      have hd : (i * k' + j) / k' = i := by rw [Nat.mul_comm, Nat.mul_add_div hk0, Nat.div_eq_of_lt hj, Nat.add_zero]
      have hm : (i * k' + j) % k' = j := by rw [Nat.mul_comm, Nat.mul_add_mod, Nat.mod_eq_of_lt hj]
      have hf := hflat d'.toList (i * k' + j) (by simpa using hlt2)
      simp only [Array.toArray_toList] at hf
      simp only [putCells, Array.getElem?_mapIdx, Array.getElem?_eq_getElem hjc, Option.map_some]
      simp only [Nat.zero_le, Nat.sub_zero, size_flatK, Nat.zero_add, hlt2, and_self, if_true, true_and, id]
      rw [hf, List.getElem?_eq_getElem (by rw [henl]; exact hj)]
      simp only [hd, hm, Array.getElem_toList]
    have hFsame : ∀ c, F c → (sortWorldK (fun p : RowV F w k' good => p.1.2) k' w b 0 q d' os).heap[c]? = w.heap[c]? := fun c hc => sw_heap (hlt c hc) (fun e => hbF (e ▸ hc))
    obtain ⟨evo, hrel⟩ := start.rewritten (w' := sortWorldK (fun p : RowV F w k' good => p.1.2) k' w b 0 q d' os) (i := 0) (blk' := .data k' R) hE rfl rfl rfl hw hw2 (by simp [putCells]) rfl rfl ⟨rfl, by show w.drawn ≤ w.drawn + q; omega⟩ sw_size (fun c hc hcb => sw_heap hc hcb)
      ⟨rfl, by rw [hRl]; exact hn, fun i row hi => by
          have := hRp.mem_iff.1 (List.mem_of_getElem? hi)
          obtain ⟨j, hj, rfl⟩ := List.getElem_of_mem this
          exact hrw j _ (List.getElem?_eq_getElem hj), .inr ⟨b, _, t, rfl, hw2, by rw [hRl]; simpa [putCells] using hcs, fun i row j x hi hj => by
        rw [hR, List.getElem?_map, Option.map_eq_some_iff] at hi
        obtain ⟨z, hz', rfl⟩ := hi
        obtain ⟨hil, rfl⟩ := List.getElem?_eq_some_iff.1 hz'
        have hil' : i < d'.size := by simpa using hil
        have hz2 : (d'.toList[i]'hil) = d'[i] := by simp
        rw [hz2] at hj
        have hj1 : j < k' := by
          have := (List.getElem?_eq_some_iff.1 hj).1
          rw [(d'[i]).2.1] at this
          exact this
        obtain ⟨v, hv⟩ : ∃ v, (d'[i]).1.2[j]? = some v := ⟨_, List.getElem?_eq_getElem (show j < (d'[i]).1.2.length by rw [henl (d'[i])]; exact hj1)⟩
        exact ⟨v, by rw [← hv, ← hput i hil' j hj1], ((d'[i]).2.2.2.2.2 j x v hj hv).evo (fun _ h => h) hFsame⟩⟩⟩
    exact ⟨_, .tup [], _, E, F, rfl, ⟨rfl, R, hRp, hRs, rfl⟩, hrel, .tup [] #[] rfl (by simp)⟩
end Go.Aw
