/-
  From the given reading of a cloud (and of whole numbers) to its data; what a call leaves of old memory. Conditions: none.
-/
import Derived.Test.YtecindhbaekncaaAwP
import Derived.Test.YtecindhbaekncaaRows
import Derived.Test.YtecindhbaekncaaChecked
import Derived.ProofKit
import Derived.Carry
import Derived.Deep.Strs
import Derived.Test.YtecindhbaekncaaC1
namespace Go.Aw
set_option linter.unusedSimpArgs false
set_option linter.unusedVariables false
open Go.ChangeShapes Go.WideShapes Go.RowKit Go.Proofs

theorem und22 : Try.prog.underlying 22 = some (.slice 51) := by kernel_rfl
theorem int2 : Try.prog.underlying 2 = some (.int .i64) := by kernel_rfl
theorem int3 : Try.prog.underlying 3 = some (.int .i64) := by kernel_rfl
theorem cells51 : Try.prog.cellsOf 51 = 3 := by kernel_rfl
theorem cells2 : Try.prog.cellsOf 2 = 1 := by kernel_rfl

theorem mapM3 {α : Type} {f : Nat → Option α} {x y z : α} (h : (List.range 3).mapM f = some [x, y, z]) : f 0 = some x ∧ f 1 = some y ∧ f 2 = some z := by
  simp only [show List.range 3 = [0, 1, 2] from rfl, List.mapM_cons, List.mapM_nil] at h
  cases h0 : f 0 with
  | none => simp [h0] at h
  | some a =>
    cases h1 : f 1 with
    | none => simp [h0, h1] at h
    | some b =>
      cases h2 : f 2 with
      | none => simp [h0, h1, h2] at h
      | some c =>
        simp [h0, h1, h2] at h
        obtain ⟨rfl, rfl, rfl⟩ := h
        exact ⟨rfl, rfl, rfl⟩

theorem und51 : ∃ f0 f1 f2 : Field, Try.prog.underlying 51 = some (.struct #[f0, f1, f2]) ∧ f0.type = 2 ∧ f1.type = 2 ∧ f2.type = 2 ∧ f0.offset = 0 ∧ f1.offset = 1 ∧ f2.offset = 2 :=
  ⟨_, _, _, Try.underlying51, rfl, rfl, rfl, rfl, rfl, rfl⟩

theorem add_none (b off n : Nat) : (⟨b, off, none⟩ : Addr).add n = ⟨b, off + n, none⟩ := by
  simp [Addr.add]

set_option maxRecDepth 100000 in
theorem rd_pts {H : Type} {enc : TypeId × Value → H} {W : World} {v : Value} {d : DataW H} {ps : List MemPlace} (hval : Value.okWide Try.prog W .any 0 22 v) (h : DataW.Trod enc Try.prog W 0 (fun _ => true) true 22 v d ps) :
    ∃ pts : List Pt, RD (fun b => b < W.heap.size) W (.sl (pts.map encP)) v := by
  obtain ⟨f0, f1, f2, hu, t0, t1, t2, o0, o1, o2⟩ := und51
  obtain ⟨a, len, cap, rfl⟩ := okWide_slice und22 hval
  obtain ⟨fuel, hf⟩ := h
  rcases DataW.trod_slice und22 hf with ⟨h1, _⟩ | ⟨a', len', cap', elems, rest, n, _, hcs, _, _, hl, _, hlen, hel, _⟩
  · simp [Value.cells] at h1
    obtain ⟨rfl, rfl, rfl⟩ := h1
    exact ⟨[], .sl0 _ _⟩
  · simp [Value.cells] at hcs
    obtain ⟨rfl, rfl, rfl⟩ := hcs
    have hsp : a'.spot = none := by
      simp only [Value.okWide, und22, Cell.okWide, Cell.ok] at hval
      exact hval.2.2.2.1
    obtain ⟨b, off, sp⟩ := a'
    simp only at hsp
    subst hsp
    have each : ∀ i, i < len → ∃ p : Pt, ∀ j x, (encP p)[j]? = some x → W.cell? ⟨b, off + (i * 3 + j), none⟩ = some (match x with | .int k n => .int k n | _ => undef) := by
      intro i hi
      have hi' : i < elems.length := by omega
      have h2 := hel i hi
      rw [List.getElem?_eq_getElem hi', Option.bind_eq_some_iff, cells51] at h2
      obtain ⟨cs, hcs, htr⟩ := h2
      obtain ⟨y0, y1, y2, m, _, hcl, g0, g1, g2⟩ := Deep.trod_struct3 hu htr
      rw [cells51] at hcl
      rw [t0, o0, cells2] at g0
      rw [t1, o1, cells2] at g1
      rw [t2, o2, cells2] at g2
      obtain ⟨x0, e0, _, _⟩ := DataW.trod_int int2 g0
      obtain ⟨x1, e1, _, _⟩ := DataW.trod_int int2 g1
      obtain ⟨x2, e2, _, _⟩ := DataW.trod_int int2 g2
      match cs, hcl with
      | [c0, c1, c2], _ =>
        simp at e0 e1 e2
        subst e0 e1 e2
        simp only [World.cells?, Nat.zero_le, if_true] at hcs
        obtain ⟨q0, q1, q2⟩ := mapM3 hcs
        simp only [add_none] at q0 q1 q2
        refine ⟨(x0, x1, x2), fun j x hj => ?_⟩
        match j with
        | 0 => simp [encP] at hj; subst hj; exact q0
        | 1 => simp [encP] at hj; subst hj; exact Nat.add_assoc _ _ _ ▸ q1
        | 2 => simp [encP] at hj; subst hj; exact Nat.add_assoc _ _ _ ▸ q2
        | j + 3 => simp [encP] at hj
    rcases Nat.eq_zero_or_pos len with h0 | hpos
    · subst h0
      exact ⟨[], .sl0 _ _⟩
    · have ex : ∃ g : Nat → Pt, ∀ i, i < len → ∀ j x, (encP (g i))[j]? = some x → W.cell? ⟨b, off + (i * 3 + j), none⟩ = some (match x with | .int k n => .int k n | _ => undef) := by
        refine ⟨fun i => if h : i < len then (each i h).choose else (0, 0, 0), fun i hi => ?_⟩
        simp only [hi, dif_pos]
        exact (each i hi).choose_spec
      obtain ⟨g, hg⟩ := ex
      refine ⟨(List.range len).map g, ?_⟩
      have hb : b < W.heap.size := by
        have h1 := hg 0 hpos 0 (.int .i64 (g 0).1) rfl
        rcases Nat.lt_or_ge b W.heap.size with h | h
        · exact h
        · simp [World.cell?, Array.getElem?_eq_none h] at h1
      have hrow : ∀ (i : Nat) (row : List D), (((List.range len).map g).map encP)[i]? = some row → i < len ∧ row = encP (g i) := fun i row hi => by
        simp only [List.getElem?_map, Option.map_eq_some_iff] at hi
        obtain ⟨p, ⟨k, hk, rfl⟩, rfl⟩ := hi
        rw [List.getElem?_eq_some_iff] at hk
        obtain ⟨h1, h2⟩ := hk
        simp at h1 h2
        subst h2
        exact ⟨h1, rfl⟩
      have hl' : (((List.range len).map g).map encP).length = len := by simp
      have := RD.sl (F := fun b => b < W.heap.size) (w := W) b off cap 3 (((List.range len).map g).map encP) (fun i j => (W.cell? ⟨b, off + (i * 3 + j), none⟩).getD undef) (by rw [hl']; exact hl) hb
        (fun i row hi => by obtain ⟨_, rfl⟩ := hrow i row hi; rfl)
        (fun i j hi hj => by
          rw [hl'] at hi
          have hx : ∃ x, (encP (g i))[j]? = some x := ⟨_, List.getElem?_eq_getElem (show j < (encP (g i)).length from hj)⟩
          obtain ⟨x, hx⟩ := hx
          rw [hg i hi j x hx]
          rfl)
        (fun i row j x hi hj => by
          obtain ⟨hil, rfl⟩ := hrow i row hi
          rw [hg i hil j x hj]
          match j with
          | 0 => simp [encP] at hj; subst hj; exact .int _ _
          | 1 => simp [encP] at hj; subst hj; exact .int _ _
          | 2 => simp [encP] at hj; subst hj; exact .int _ _
          | j + 3 => simp [encP] at hj)
      rwa [hl'] at this

/-- What a call over data leaves: its result, and all old memory. -/
theorem pd_calls {P : Program} {f : FuncId} {args : List D} {x0 : V} (h : PC P f args fun x H => x = x0 ∧ H = []) {W : World} {cargs : Array Value} (hc : CR [] (fun b => b < W.heap.size) W (args.map ofD) cargs) :
    Calls P f cargs W fun e W' => ∃ v E' F', e = .returned v ∧ Below W.heap.size W W' ∧ VR E' F' W' x0 v := by
  refine (h.2 W cargs [] (fun b => b < W.heap.size) ⟨rfl, by simp, by simp, by simp⟩ (fun b hb => hb) (by simp) hc).mono ?_
  rintro e W' ⟨v, x, H', E', F', rfl, ⟨rfl, rfl⟩, hr, hv⟩
  refine ⟨v, E', F', rfl, ⟨hr.os, hr.tape, hr.output, hr.size, fun k hk => hr.same k hk ?_⟩, hv⟩
  rintro ⟨id, en, blk, h1, _⟩
  simp at h1

theorem post_true {H : Type} {enc : TypeId × Value → H} {P : Program} {f : Func} {s : ChangeSpec} {apart fresh handsOn : Bool} {W W' : World} {args : Array Value} {v : Value} {ds gs : List (DataW H)} {before pa pv : List MemPlace}
    (hW : DataW.Whole enc P f.params.toList s.vars apart W args.toList ds gs before)
    (hres : ∀ (b : Nat) (sp : Nat → Bool) (hd : Bool), DataW.TrodAll enc P W' b sp hd f.resultTypes.toList (v.resultList f.resultTypes.size) (s.fn H (ds ++ gs)).results [])
    (hargs : DataW.TrodAll enc P W' 0 (fun b => decide (b < W.heap.size)) true f.params.toList args.toList (s.fn H (ds ++ gs)).args pa)
    (hvars : DataW.TrodVars enc P W' (fun b => decide (b < W.heap.size)) s.vars (s.fn H (ds ++ gs)).vars pv)
    (hps : before = pa ++ pv) (hb : Below W.heap.size W W') : s.post enc P f apart fresh handsOn false W args v W' :=
  ⟨ds, gs, before, [], pa, pv, hW, hres _ _ _, hargs, hvars, hb.frame _, fun h => by cases h⟩

end Go.Aw
