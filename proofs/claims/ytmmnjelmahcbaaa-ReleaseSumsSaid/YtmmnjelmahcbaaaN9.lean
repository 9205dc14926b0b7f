/-
  The fold over a row of numbers. Conditions: lengths that fit.
-/
import Derived.Test.YtmmnjelmahcbaaaN8
import Derived.RangeFuncCalls
import Derived.RangeFuncNested
namespace Go.Aw
set_option linter.unusedSimpArgs false
set_option linter.unusedVariables false
open Go.RowKit Go.Proofs Go.Nt Go.Shelf
attribute [local go_sem] Oper.semAt_some

theorem arr0 {a : Array Value} (h : a.size = 0) : a = #[] := Array.size_eq_zero_iff.1 h
theorem arr1 {a : Array Value} (h : a.size = 1) : ∃ x, a = #[x] := by
  obtain ⟨l⟩ := a
  match l, h with
  | [x], _ => exact ⟨x, rfl⟩
theorem arr3 {a : Array Value} (h : a.size = 3) : ∃ x y z, a = #[x, y, z] := by
  obtain ⟨l⟩ := a
  match l, h with
  | [x, y, z], _ => exact ⟨x, y, z, rfl⟩

/-- The value stands for the number, in blocks of cells that nobody writes any more, or that are new. -/
def SlAt (F : Nat → Prop) (n0 : Nat) (W : World) (m : Nat) (v : Value) : Prop :=
  ∃ F' : Nat → Prop, (∀ b, F' b → (F b ∨ n0 ≤ b) ∧ ∃ o : Obj, W.heap[b]? = some o ∧ o.isCells = true) ∧ RD F' W (Go.Aw.D.sl ((digs B64 (m)).map encW)) v
/-- What lay when the call began lies as it lay. -/
structure Stays (w W : World) : Prop where
  os : W.os = w.os
  tape : W.tape = w.tape
  later : Later w W
  size : w.heap.size ≤ W.heap.size
  same : ∀ b, b < w.heap.size → W.heap[b]? = w.heap[b]?
theorem Stays.refl (w : World) : Stays w w := ⟨rfl, rfl, Later.refl w, Nat.le_refl _, fun _ _ => rfl⟩
theorem Stays.alloc {w W : World} (h : Stays w W) (o : Obj) : Stays w (W.alloc o) :=
  ⟨h.os, h.tape, ⟨h.later.output, h.later.drawn⟩, Nat.le_trans h.size (by simp), fun b hb => (Below.heap_alloc W o b (Nat.lt_of_lt_of_le hb h.size)).trans (h.same b hb)⟩
theorem Stays.putObj {w W : World} (h : Stays w W) (l : Nat) (o : Obj) (hl : w.heap.size ≤ l) : Stays w (W.putObj l o) :=
  ⟨h.os, h.tape, ⟨h.later.output, h.later.drawn⟩, by rw [World.putObj_size]; exact h.size, fun b hb => (World.putObj_heap_other (by omega)).trans (h.same b hb)⟩
theorem Stays.setCell {w W : World} (h : Stays w W) (a : Addr) (v : Value) (hl : w.heap.size ≤ a.block) : Stays w (W.setCell a v) :=
  ⟨h.os, h.tape, ⟨h.later.output, h.later.drawn⟩, by simpa using h.size, fun b hb => (Below.heap_setCell W a v b (by omega)).trans (h.same b hb)⟩
theorem SlAt.evo {F : Nat → Prop} {n0 : Nat} {W W' : World} {m : Nat} {v : Value} (h : SlAt F n0 W m v) (hw : ∀ (b : Nat) (o : Obj), W.heap[b]? = some o → o.isCells = true → (F b ∨ n0 ≤ b) → W'.heap[b]? = W.heap[b]?) : SlAt F n0 W' m v := by
  obtain ⟨F', h1, h2⟩ := h
  refine ⟨F', fun b hb => ?_, h2.evo (fun _ h => h) fun b hb => ?_⟩
  · obtain ⟨q1, o, q2, q3⟩ := h1 b hb
    exact ⟨q1, o, (hw b o q2 q3 q1).trans q2, q3⟩
  · obtain ⟨q1, o, q2, q3⟩ := h1 b hb
    exact hw b o q2 q3 q1

theorem rd_slice {F : Nat → Prop} {W : World} {rows : List (List D)} {v : Value} (h : RD F W (.sl rows) v) : ∃ a n c, v = .slice a n c := by
  generalize hx : D.sl rows = x at h
  cases h <;> first | exact ⟨_, _, _, rfl⟩ | cases hx
/-- Only blocks of cells are read. -/
theorem rd_cells {F : Nat → Prop} {W : World} {ds : List Nat} {v : Value} (h : RD F W (.sl (ds.map encW)) v) : RD (fun b => F b ∧ ∃ o : Obj, W.heap[b]? = some o ∧ o.isCells = true) W (.sl (ds.map encW)) v := by
  generalize hx : D.sl (ds.map encW) = x at h
  cases h with
  | sl0 a cap => exact .sl0 a cap
  | sl b off cap k rows c hn hF hk hc hr =>
    injection hx with hx
    subst hx
    cases ds with
    | nil => exact .sl0 _ cap
    | cons y ds =>
      have hk1 : 1 = k := hk 0 (encW y) rfl
      subst hk1
      refine .sl b off cap 1 _ c hn ⟨hF, cells_of_cell (a := ⟨b, off + (0 * 1 + 0), none⟩) (hc 0 0 (by simp) (by omega))⟩ hk hc fun i row j x hi hj => ?_
      obtain ⟨z, _, rfl⟩ := List.mem_map.1 (List.mem_of_getElem? hi)
      have h := hr i _ j x hi hj
      rcases Nat.eq_zero_or_pos j with rfl | hj0
      · simp only [encW, List.getElem?_cons_zero, Option.some.injEq] at hj
        subst hj
        generalize c i 0 = u at h
        cases h
        exact .int _ _
      · simp only [encW] at hj
        rw [List.getElem?_eq_none (by simp; omega)] at hj
        cases hj
  | _ => cases hx

set_option maxRecDepth 100000 in
set_option maxHeartbeats 4000000 in
theorem p90 (gs : List Nat) (hne : gs ≠ []) (hlen : gs.length ≤ 61) (acc : Nat → Nat) (h0 : acc 0 = 0) (hs : ∀ (k g : Nat), gs[k]? = some g → acc (k + 1) = acc k + g) (hfit : ∀ k, k ≤ gs.length → nw (acc k) ≤ 500000)
    (hg : ∀ g, g ∈ gs → nw g ≤ 500000) : PD Try.prog 90 [.fn (.func 117) [.cp [.sl (gs.map fun g => [(Go.Aw.D.sl ((digs B64 (g)).map encW))])] 0], .sl [], .fn (.func 67) []] (.d (Go.Aw.D.sl ((digs B64 (acc gs.length)).map encW))) := by
  refine ⟨⟨Try.f90, by kernel_rfl, by kernel_rfl, rfl⟩, fun w cargs E F hHR hlt hkp hcr => ?_⟩
  obtain ⟨hsz, hv⟩ := hcr
  obtain ⟨x0, x1, x2, rfl⟩ : ∃ x0 x1 x2, cargs = #[x0, x1, x2] := arr3 hsz
  clear hsz
  · skip
    have v0 := hv 0 _ x0 rfl rfl
    have v1 := hv 1 _ x1 rfl rfl
    have v2 := hv 2 _ x2 rfl rfl
    clear hv
    simp only [ofD] at v0 v1 v2
    cases v0 with | d _ _ v0 => ?_
    cases v1 with | d _ _ v1 => ?_
    cases v2 with | d _ _ v2 => ?_
    cases v0 with | fn _ _ cs0 hs0 hr0 => ?_
    cases v2 with | fn _ _ cs2 hs2 hr2 => ?_
    obtain ⟨p0, rfl⟩ : ∃ p, cs0 = #[p] := arr1 hs0
    obtain rfl : cs2 = #[] := arr0 hs2
    clear hs0 hs2
    have vp := hr0 0 _ p0 rfl rfl
    clear hr0 hr2
    cases vp with | cp bb oo _ _ cc hFb hcb hrb => ?_
    have hb0 := hcb 0 (by simp)
    have hr0 := hrb 0 _ rfl
    clear hcb hrb
    generalize cc 0 = sv at hb0 hr0
    obtain ⟨a1, cap1, rfl⟩ : ∃ a cap, x1 = .slice a 0 cap := by
      cases v1 with
      | sl0 a cap => exact ⟨a, cap, rfl⟩
      | sl b off cap k rows c _ _ _ _ _ => exact ⟨_, cap, rfl⟩
    clear v1
    obtain ⟨b2, off2, cap2, c2, rfl, hF2, hc2, hx2⟩ : ∃ (b off cap : Nat) (c : Nat → Value), sv = .slice (some ⟨b, off, none⟩) gs.length cap ∧ F b ∧ (∀ j, j < gs.length → w.cell? ⟨b, off + j, none⟩ = some (c j)) ∧ ∀ (j g : Nat), gs[j]? = some g → RD F w (Go.Aw.D.sl ((digs B64 (g)).map encW)) (c j) := by
      generalize hxx : D.sl (gs.map fun g => [(Go.Aw.D.sl ((digs B64 (g)).map encW))]) = x at hr0
      cases hr0 with
      | sl0 a cap => exact absurd (by injection hxx with e; simpa using e) hne
      | sl b off cap k rows c hn hF hk hc hr =>
        injection hxx with e
        subst e
        have hk1 : k = 1 := by
          cases gs with
          | nil => exact absurd rfl hne
          | cons g gs => exact (hk 0 _ rfl).symm
        subst hk1
        refine ⟨b, off, cap, fun j => c j 0, by simp, hF, fun j hj => ?_, fun j g hj => hr j _ 0 _ (by rw [List.getElem?_map, hj]; rfl) rfl⟩
        have := hc j 0 (by simpa using hj) (by decide)
        simpa using this
      | _ => cases hxx
    refine callsIn_wide (n := 3) |>.1 ?_
    refine callsIn_of_wp_marks Try.func90 rfl trivial ?_ rfl
    simp only [Try.ntmps90, List.size_toArray, List.length_cons, List.length_nil, Nat.reduceAdd, Nat.reduceSub, Array.replicate_succ, Array.replicate_zero, List.push_toArray, List.append_toArray, List.nil_append, List.cons_append]
    gi_wp2
    refine wpIn_rangeV rfl (fun h => by cases h) (gf := 117) (lb := #[.pointer (some ⟨bb, oo + 0, none⟩)]) rfl trivial (enters_of Try.func117 (by kernel_rfl) rfl) (encs := fun k => #[c2 k]) (N := gs.length)
      (fun k W => (∃ v, W.cell? ⟨w.heap.size, 0, none⟩ = some v ∧ SlAt F (w.heap.size + 2) W (acc k) v) ∧ W.frozen? ⟨w.heap.size, 0, none⟩ = false ∧ W.cell? ⟨w.heap.size + 1, 0, none⟩ = some (.func (.func 67) #[] #[]) ∧ Stays w W ∧ w.heap.size + 2 ≤ W.heap.size)
      (fun k => rfl) ?iter ?putObj ?init
      (fun k => { tmps := #[.func (.func 117) #[] #[.pointer (some ⟨bb, oo + 0, none⟩)], .slice a1 0 cap1, .func (.func 67) #[] #[], undef, .pointer (some ⟨w.heap.size, 0, none⟩), .pointer (some ⟨w.heap.size + 1, 0, none⟩), .slice none 0 0, c2 k, .func (.func 117) #[] #[.pointer (some ⟨bb, oo + 0, none⟩)], c2 k, undef, undef, undef, undef, undef], defers := [] }) ?assign ?body ?done
    case iter =>
      intro l J W hJ hY hJ0
      refine Try.values1_in Fence.wide 2 trivial rfl (by omega) l bb (oo + 0) b2 off2 gs.length cap2 c2 (by omega) J (fun k W hJk => ?_) hY W hJ0
      obtain ⟨_, _, _, hst, _⟩ := hJ k W hJk
      exact ⟨(World.cell?_of_block (hst.same bb (hlt bb hFb))).trans hb0, fun j hj => (World.cell?_of_block (hst.same b2 (hlt b2 hF2))).trans (hc2 j hj)⟩
    case putObj =>
      rintro k W l o o' ⟨⟨v, hv1, hv2⟩, hfz, hstep, hst, hsz⟩ hl ho hnc
      have hcells : ∀ (b : Nat) (q : Obj), W.heap[b]? = some q → q.isCells = true → (W.putObj l o').heap[b]? = W.heap[b]? := fun b q hb hq => World.putObj_heap_other (fun e => by
        subst e; rw [ho] at hb; cases hb; rw [hnc] at hq; cases hq)
      have hcell : ∀ (a : Addr) (u : Value), W.cell? a = some u → (W.putObj l o').heap[a.block]? = W.heap[a.block]? := fun a u hu => by
        obtain ⟨q, h1, h2⟩ := cells_of_cell hu
        exact hcells _ q h1 h2
      simp only [World.size_alloc] at hl
      exact ⟨⟨v, (World.cell?_of_block (hcell _ _ hv1)).trans hv1, hv2.evo fun b q h1 h2 _ => hcells b q h1 h2⟩, (World.frozen?_of_block (hcell _ _ hv1)).trans hfz, (World.cell?_of_block (hcell _ _ hstep)).trans hstep, hst.putObj l o' (by omega), by rw [World.putObj_size]; exact hsz⟩
    case init =>
      intro r
      have b1 := Boxed.new w 75 (.slice a1 0 cap1)
      have b2 := Boxed.new (w.alloc (.cells #[.slice a1 0 cap1] 75)) 123 (.func (.func 67) #[] #[])
      rw [World.size_alloc] at b2
      have b1' := ((b1.alloc (.cells #[.func (.func 67) #[] #[]] 123)).alloc (.deferred (some []))).alloc (.loop r)
      have b2' := (b2.alloc (.deferred (some []))).alloc (.loop r)
      refine ⟨⟨_, b1'.cell, fun _ => False, fun _ h => h.elim, ?_⟩, b1'.frozen, b2'.cell, ((((Stays.refl w).alloc _).alloc _).alloc _).alloc _, by simp⟩
      rw [h0, digs_zero]
      exact .sl0 _ _
    case assign =>
      intro l k W K hK
      gi_wp2
      exact hK
    case body =>
      rintro l k W ⟨⟨v, hv1, hv2⟩, hfz, hstep, hst, hsz⟩ hk
      gi_wp2
      obtain ⟨F', hF', hrd⟩ := hv2
      obtain ⟨g, hgk⟩ : ∃ g, gs[k]? = some g := ⟨_, List.getElem?_eq_getElem hk⟩
      have h67 := p67 (acc k) g (hfit k (by omega)) (hg g (List.mem_of_getElem? hgk))
      rw [← hs k g hgk] at h67
      have hx1 : RD (fun b => F b ∨ F' b) W (Go.Aw.D.sl ((digs B64 (g)).map encW)) (c2 k) := (hx2 k g hgk).evo (fun _ h => .inl h) (fun b hb => hst.same b (hlt b hb))
      have hrd1 : RD (fun b => F b ∨ F' b) W (Go.Aw.D.sl ((digs B64 (acc k)).map encW)) v := hrd.evo (fun _ h => .inr h) (fun _ _ => rfl)
      refine ⟨trivial, (CallsIn.inRound l (callsIn_wide.2 (h67.2 W #[v, c2 k] [] (fun b => F b ∨ F' b) ⟨rfl, by simp, by simp, by simp⟩ (fun b hb => ?_) (by simp) ⟨rfl, ?_⟩))).mono ?_⟩
      · rcases hb with hb | hb
        · exact Nat.lt_of_lt_of_le (hlt b hb) hst.size
        · obtain ⟨_, o, ho, _⟩ := hF' b hb
          exact (Array.getElem?_eq_some_iff.1 ho).1
      · intro j x u hx hu
        match j with
        | 0 => simp [ofD] at hx hu; subst hx hu; exact .d _ _ hrd1
        | 1 => simp [ofD] at hx hu; subst hx hu; exact .d _ _ hx1
        | j + 2 => simp at hx
      rintro e W2 ⟨v2, x, H', E', F2, rfl, ⟨rfl, rfl⟩, hrel, hvr⟩
      have hsame : ∀ b, b < W.heap.size → W2.heap[b]? = W.heap[b]? := fun b hb => hrel.same b hb (by rintro ⟨id, e, blk, h1, _⟩; simp at h1)
      have hv1' : W2.cell? ⟨w.heap.size, 0, none⟩ = some v := (World.cell?_of_block (hsame _ (by show w.heap.size < _; omega))).trans hv1
      have hfz' : W2.frozen? ⟨w.heap.size, 0, none⟩ = false := (World.frozen?_of_block (hsame _ (by show w.heap.size < _; omega))).trans hfz
      have hstep' : W2.cell? ⟨w.heap.size + 1, 0, none⟩ = some (.func (.func 67) #[] #[]) := (World.cell?_of_block (hsame _ (by show w.heap.size + 1 < _; omega))).trans hstep
      have hrel_size : W.heap.size ≤ W2.heap.size := hrel.size
      have hst2 : Stays w W2 := ⟨hrel.os.trans hst.os, hrel.tape.trans hst.tape, (show Later W W2 from hrel.output).trans hst.later, Nat.le_trans hst.size hrel_size, fun b hb => (hsame b (Nat.lt_of_lt_of_le hb hst.size)).trans (hst.same b hb)⟩
      have hk2 : KeepsOthers W W2 := ⟨hrel_size, fun i o hi _ => (hsame i (Array.getElem?_eq_some_iff.1 hi).1).trans hi⟩
      have hsl : SlAt F (w.heap.size + 2) W2 (acc (k + 1)) v2 := by
        cases hvr with
        | d _ _ hd =>
          refine ⟨_, fun b hb => ⟨?_, hb.2⟩, rd_cells hd⟩
          rcases hrel.only b hb.1 with (h | h) | h | h
          · exact .inl h
          · exact (hF' b h).1
          · exact .inr (Nat.le_trans hsz h)
          · obtain ⟨id, e, blk, h1, _⟩ := h; simp at h1
      obtain ⟨a2, n2, cap3, rfl⟩ : ∃ a n c, v2 = .slice a n c := by
        obtain ⟨_, _, hd⟩ := hsl
        exact rd_slice hd
      clear hs hgk h67
      gi_wp2
      refine ⟨hk2.trans (KeepsOthers.setCell _ _ _), hsl.evo fun b o h1 h2 h3 => Below.heap_setCell _ _ _ b ?_, hst2.setCell _ _ (Nat.le_refl _), by omega⟩
      rcases h3 with h3 | h3
      · have := hlt b h3; show b ≠ w.heap.size; omega
      · show b ≠ w.heap.size; omega
    case done =>
      rintro D W hD ⟨⟨v, hv1, hv2⟩, hfz, hstep, hst, hsz⟩ hDd
      gi_wp2
      simp only [World.size_alloc] at hD
      refine ⟨by simp, .inl ⟨_, _, rfl, run_takeDeferred hDd, ?_⟩⟩
      obtain ⟨F', hF', hrd⟩ := hv2.evo (W' := W.putObj D (.deferred none)) (fun b o h1 h2 _ => World.putObj_heap_other (fun e => by subst e; rw [hDd] at h1; cases h1; cases h2))
      have hst' := hst.putObj D (.deferred none) (by omega)
      refine ⟨_, results_tmp rfl _ _ _, _, _, _, [], fun b => F b ∨ F' b, rfl, ⟨rfl, rfl⟩, ⟨hst'.os, hst'.tape, hst'.later, hst'.size, fun _ h => .inl h, ?_, fun b hb _ => hst'.same b hb, ?_, ⟨rfl, by simp, by simp, by simp⟩, by simp, by simp, ?_⟩, .d _ _ (hrd.evo (fun _ h => .inr h) (fun _ _ => rfl))⟩
      · rintro b (hb | hb)
        · exact .inl hb
        · rcases (hF' b hb).1 with h | h
          · exact .inl h
          · exact .inr (.inl (Nat.le_trans (Nat.le_add_right _ 2) h))
      · rintro b (hb | hb)
        · exact Nat.lt_of_lt_of_le (hlt b hb) hst'.size
        · obtain ⟨_, o, ho, _⟩ := hF' b hb
          exact (Array.getElem?_eq_some_iff.1 ho).1
      · rintro b n ⟨cs, t, h1, h2⟩
        exact ⟨cs, t, (hst'.same b (Array.getElem?_eq_some_iff.1 h1).1).trans h1, h2⟩

end Go.Aw
