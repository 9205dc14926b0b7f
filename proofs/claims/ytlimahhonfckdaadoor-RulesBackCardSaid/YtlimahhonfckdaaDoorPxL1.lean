/-
  The library's contract of strings.Join, laid at this program (printed by a scratch copy of the kit's laying command, see NOTES.md), and the same over data. Conditions: lengths that fit.
-/
import Derived.Shelf.Strings.OnBuilder
import Derived.Test.YtlimahhonfckdaaDoorPxU50
import Derived.Test.YtlimahhonfckdaaDoorPkT
namespace Go.Proofs
set_option linter.unusedSimpArgs false
set_option linter.unusedVariables false
open Go.Shelf
def Tryd.laysJoin_ren : Go.Shelf.Ren := ⟨fun | 156 => 62 | 165 => 87 | 166 => 88 | 169 => 89 | 240 => 112 | 241 => 113 | 276 => 128 | 277 => 129 | n => n, fun | 31 => 107 | 9 => 9 | 3 => 3 | 4 => 4 | 0 => 0 | 20 => 20 | 72 => 139 | 76 => 143 | 70 => 136 | 37 => 137 | 75 => 142 | 127 => 164 | 164 => 177 | 5 => 5 | 80 => 145 | n => n, fun | n => n⟩
theorem Tryd.laysJoin : Go.Proofs.Lays.n156 Tryd.prog Tryd.laysJoin_ren where
  mixed := by kernel_rfl
  f156 := Tryd.func62.trans (congrArg some (by kernel_rfl))
  f165 := Tryd.func87.trans (congrArg some (by kernel_rfl))
  f166 := Tryd.func88.trans (congrArg some (by kernel_rfl))
  f169 := Tryd.func89.trans (congrArg some (by kernel_rfl))
  f240 := Tryd.func112.trans (congrArg some (by kernel_rfl))
  f241 := Tryd.func113.trans (congrArg some (by kernel_rfl))
  f276 := Tryd.func128.trans (congrArg some (by kernel_rfl))
  f277 := Tryd.func129.trans (congrArg some (by kernel_rfl))
  t0 := Tryd.underlying0
  a0 := Tryd.isAgg0
  z0 := Tryd.sizeOf0
  v0 := Tryd.zeroValue0
  t3 := Tryd.underlying3
  a3 := Tryd.isAgg3
  z3 := Tryd.sizeOf3
  v3 := Tryd.zeroValue3
  t4 := Tryd.underlying4
  a4 := Tryd.isAgg4
  z4 := Tryd.sizeOf4
  v4 := Tryd.zeroValue4
  t9 := Tryd.underlying9
  a9 := Tryd.isAgg9
  z9 := Tryd.sizeOf9
  v9 := Tryd.zeroValue9
  t20 := Tryd.underlying20
  a20 := Tryd.isAgg20
  z20 := Tryd.sizeOf20
  v20 := Tryd.zeroValue20
  t31 := Tryd.underlying107
  a31 := Tryd.isAgg107
  z31 := Tryd.sizeOf107
  v31 := Tryd.zeroValue107
  t37 := Tryd.underlying137
  a37 := Tryd.isAgg137
  z37 := Tryd.sizeOf137
  v37 := Tryd.zeroValue137
  t70 := Tryd.underlying136
  a70 := Tryd.isAgg136
  z70 := Tryd.sizeOf136
  v70 := Tryd.zeroValue136
  t72 := Tryd.underlying139
  a72 := Tryd.isAgg139
  z72 := Tryd.sizeOf139
  v72 := Tryd.zeroValue139
  t75 := Tryd.underlying142
  a75 := Tryd.isAgg142
  z75 := Tryd.sizeOf142
  v75 := Tryd.zeroValue142
  t76 := Tryd.underlying143
  a76 := Tryd.isAgg143
  z76 := Tryd.sizeOf143
  v76 := Tryd.zeroValue143
  t127 := Tryd.underlying164
  a127 := Tryd.isAgg164
  z127 := Tryd.sizeOf164
  v127 := Tryd.zeroValue164
  t164 := Tryd.underlying177
  a164 := Tryd.isAgg177
  z164 := Tryd.sizeOf177
  v164 := Tryd.zeroValue177
theorem Tryd.extraJ : Builder.Extra Tryd.prog Tryd.laysJoin_ren where
  sizeBuilder := by kernel_rfl
  liesBuilder := by kernel_rfl
  t5 := Tryd.underlying5
  a5 := Tryd.isAgg5
  z5 := Tryd.sizeOf5
  v5 := Tryd.zeroValue5
  infoByte := by kernel_rfl
  cellsByte := by kernel_rfl
  sizeByte := by kernel_rfl
  neB5 := by decide
end Go.Proofs
namespace Go.Aw
open Go.RowKit Go.Proofs
theorem pd_below {P : Program} {f : FuncId} {args : List D} {x0 : V} (hc : callable P f)
    (h : ∀ (w : World) (F : Nat → Prop) (cargs : Array Value), FO F w → CR [] F w (args.map ofD) cargs → Calls P f cargs w fun e w' => ∃ v, e = .returned v ∧ VR [] F w' x0 v ∧ Below w.heap.size w w') : PD P f args x0 := by
  refine ⟨hc, fun w cargs E F hh hF _ hcr => ?_⟩
  have hE : E = [] := List.eq_nil_of_length_eq_zero (by rw [hh.len]; rfl)
  subst hE
  refine (h w F cargs hF hcr).mono fun e w' ⟨v, he, hx, hb⟩ => ⟨v, x0, [], [], F, he, ⟨rfl, rfl⟩, ?_, hx⟩
  have hsame : ∀ b, F b → w'.heap[b]? = w.heap[b]? := fun b hb' => hb.block b (hF b hb')
  refine ⟨hb.os, hb.tape, ⟨hb.output⟩, hb.size, fun _ h => h, fun _ h => .inl h, fun b hlt _ => hb.block b hlt, hF.evo (fun _ h => h) hsame (fun b hb' => Nat.lt_of_lt_of_le (hF b hb') hb.size), ⟨rfl, by simp, by simp, by simp⟩, by simp, by simp, fun b n hs => ?_⟩
  obtain ⟨cs, t, h1, h2⟩ := hs
  exact ⟨cs, t, by rw [hb.block b (Sz.lt ⟨cs, t, h1, h2⟩)]; exact h1, h2⟩
theorem join_eq : ∀ ws : List (List UInt8), Lib.join ws [32] = joinW ws
  | [] => rfl
  | [w] => Lib.join_one w _
  | w :: x :: ws => by
    have ih := join_eq (x :: ws)
    rw [Lib.join_cons] at ih ⊢
    rw [joinW, ← ih]
    simp [Lib.joinTail]
theorem cr_two {F : Nat → Prop} {w : World} {x y : D} {cargs : Array Value} (h : CR [] F w ([x, y].map ofD) cargs) : ∃ u v, cargs = #[u, v] ∧ VR [] F w (ofD x) u ∧ VR [] F w (ofD y) v := by
  obtain ⟨h1, h2⟩ := h
  have h1' : cargs.size = 2 := by rw [h1]; rfl
  refine ⟨cargs[0], cargs[1], ?_, h2 0 _ _ rfl (by simp [h1']), h2 1 _ _ rfl (by simp [h1'])⟩
  apply Array.ext
  · simp [h1']
  · intro i hi hi2
    have : i = 0 ∨ i = 1 := by omega
    rcases this with rfl | rfl <;> rfl
theorem pd_join (ws : List (List UInt8)) (hn : ws.length ≤ 1000000) (hl : (joinW ws).length ≤ 1000000) : PD Tryd.prog 62 [.sl (ws.map encS), .str (bs [32])] (.d (.str (bs (joinW ws)))) := by
  refine pd_below ⟨_, Tryd.func62, by kernel_rfl, by kernel_rfl⟩ fun w F cargs hF hcr => ?_
  obtain ⟨u, v, rfl, hu, hv⟩ := cr_two hcr
  cases hv with
  | d _ _ hv =>
  cases hv
  cases hu with
  | d _ _ hu =>
  have hmap : (ws.map bs).map (fun x : ByteArray => x.data.toList) = ws := by
    rw [List.map_map]
    exact (List.map_congr_left fun x _ => rfl).trans (List.map_id _)
  generalize hrows : ws.map encS = rows at hu
  cases hu with
  | sl0 a cap =>
    have hws : ws = [] := by
      cases ws with
      | nil => rfl
      | cons a l => simp at hrows
    subst hws
    refine (Any.strings_Join_none Tryd.laysJoin Tryd.extraJ a cap (bs [32]) w).mono ?_
    rintro e w' ⟨he, rfl⟩
    exact ⟨_, he, .d _ _ (.str _), Below.refl _ _⟩
  | sl b off cap k rows c hn' hb hk hc hr =>
    have hlen : rows.length = ws.length := by rw [← hrows, List.length_map]
    by_cases hws : ws = []
    · subst hws
      simp at hrows
      subst hrows
      refine (Any.strings_Join_none Tryd.laysJoin Tryd.extraJ _ cap (bs [32]) w).mono ?_
      rintro e w' ⟨he, rfl⟩
      exact ⟨_, he, .d _ _ (.str _), Below.refl _ _⟩
    · have hget : ∀ (i : Nat) (x : List UInt8), ws[i]? = some x → rows[i]? = some (encS x) := fun i x hx => by rw [← hrows, List.getElem?_map, hx]; rfl
      obtain ⟨w0, hw0⟩ : ∃ x, ws[0]? = some x := by
        cases ws with
        | nil => exact absurd rfl hws
        | cons x l => exact ⟨x, rfl⟩
      have hk1 : k = 1 := (hk 0 _ (hget 0 w0 hw0)).symm
      subst hk1
      have := Any.strings_Join Tryd.laysJoin Tryd.extraJ b off cap (ws.map bs) (bs [32]) w (fun j x hx => by
        rw [List.getElem?_map, Option.map_eq_some_iff] at hx
        obtain ⟨y, hy, rfl⟩ := hx
        have hj : j < rows.length := by rw [hlen]; exact (List.getElem?_eq_some_iff.1 hy).1
        have h1 := hc j 0 hj (by omega)
        have h2 := hr j _ 0 (.str (bs y)) (hget j y hy) rfl
        rw [show off + (j * 1 + 0) = off + j by omega] at h1
        rw [h1]
        generalize c j 0 = q at h2
        cases h2
        rfl) (hF b hb) (by simp; omega) (by simp; omega) (by rw [hmap]; show (Lib.join ws [32]).length ≤ _; rw [join_eq]; omega)
      rw [List.length_map, ← hlen] at this
      refine Calls.mono this ?_
      rintro e w' ⟨he, hb'⟩
      refine ⟨_, he, .d _ _ ?_, hb'⟩
      rw [hmap]
      have e1 : Lib.join ws (bs [32]).data.toList = joinW ws := join_eq ws
      rw [e1]
      exact .str _
end Go.Aw
