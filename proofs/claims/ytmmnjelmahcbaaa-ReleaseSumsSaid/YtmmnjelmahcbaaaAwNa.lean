/-
  Conversions to texts, and calls of functions that the model itself answers (sums and differences with a carry). Over any program; no condition.
-/
import Derived.Test.YtmmnjelmahcbaaaAwM
import Derived.Laws.BytesArg
import Derived.Laws.Externs
namespace Go.Aw
set_option linter.unusedSimpArgs false
set_option linter.unusedVariables false
open Go.RowKit

def kbyt (P : Program) (t : TypeId) : Bool :=
  match P.underlying t with
  | some (.slice e) => match P.underlying e with
    | some (.int .u8) => true
    | _ => false
  | _ => false
theorem kbyt_spec {P : Program} {t : TypeId} (h : kbyt P t = true) : ∃ e, P.underlying t = some (.slice e) ∧ P.underlying e = some (.int .u8) := by
  unfold kbyt at h
  split at h
  · rename_i e he
    split at h
    · exact ⟨e, he, by assumption⟩
    · cases h
  · cases h

def byteN : List D → Int
  | [.int _ n] => n
  | _ => 0
/-- The text of some bytes. -/
def bytesOf (ys : List (List D)) : ByteArray := strOfNums (ys.map byteN)
def bytesOk (ys : List (List D)) : Prop := ∀ row, row ∈ ys → row = [.int .u8 (byteN row)]

/-- Conversions to texts. -/
def strQ (P : Program) (H : List Blk) (src dst : TypeId) (x : V) : Option (Prop × V) :=
  match x, kstr P dst with
  | .d (.int _ n), true => match kint P src with
    | some _ => some (True, .d (.str (Utf8.encode n)))
    | none => none
  | .ref id off len, true => if kbyt P src then (srcQ H 1 (.ref id off len)).map fun r => (r.1 ∧ bytesOk r.2, .d (.str (bytesOf r.2))) else none
  | .d (.sl rows), true => if kbyt P src then (srcQ H 1 (.d (.sl rows))).map fun r => (r.1 ∧ bytesOk r.2, .d (.str (bytesOf r.2))) else none
  | .nil, true => if kbyt P src then (srcQ H 1 .nil).map fun r => (r.1 ∧ bytesOk r.2, .d (.str (bytesOf r.2))) else none
  | _, _ => none

theorem src_str {P : Program} {F : Nat → Prop} {w : World} {ys : List (List D)} {a : Option Addr} {l c : Nat} {cs : List Value} {src e dst : TypeId} (h : Src P F w 1 ys (.slice a l c) cs) (hy : bytesOk ys)
    (hs : P.underlying src = some (.slice e)) (he : P.underlying e = some (.int .u8)) (hd : P.underlying dst = some .string) : ∀ w', Keep w w' → (convert src dst (.slice a l c)).run P w' = .ok (.string (bytesOf ys)) w' := by
  have hl : l = ys.length := by have := h.len w; simpa [Builtin.lenOf] using this
  have hsz := h.size
  have hcs : cs = (ys.map byteN).map (Value.int .u8) := by
    apply List.ext_getElem?
    intro i
    by_cases hi : i < ys.length
    · have hr := List.getElem?_eq_getElem hi
      have hrow := hy _ (List.getElem_mem hi)
      obtain ⟨u, hu, hd⟩ := h.cell i _ 0 (.int .u8 (byteN ys[i])) hr (by rw [hrow]; simp [byteN])
      cases hd
      rw [Nat.mul_one, Nat.add_zero] at hu
      rw [hu]
      simp [hr]
    · rw [List.getElem?_eq_none (by omega), List.getElem?_eq_none (by simp; omega)]
  intro w' hk
  have hrun := h.run w' hk
  cases a with
  | none =>
    have h0 : ys = [] := by
      simp [Builtin.firstCells] at hrun
      have : cs.length = 0 := by rw [hrun]; rfl
      exact List.eq_nil_of_length_eq_zero (by omega)
    subst h0
    rw [run_convert_bytes_nil w' src e hs he l c dst hd]
    rfl
  | some a =>
    rw [run_convert_bytes_string w' src dst e _ l c hs he hd, run_bytesToString w' a l c (ys.map byteN) (by
      simp only [Builtin.firstCells, Nat.mul_one] at hrun
      rw [hl, hrun, hcs]), foldl_push_bytes]
    simp [bytesOf, strOfNums, ByteArray.empty, ByteArray.emptyWithCapacity]
    rfl

theorem vr_slice {E : Env} {F : Nat → Prop} {w : World} {id off len : Nat} {v : Value} (h : VR E F w (.ref id off len) v) : ∃ a l c, v = .slice a l c := by
  cases h <;> exact ⟨_, _, _, rfl⟩

theorem strQ_sound {P : Program} {E : Env} {F : Nat → Prop} {w : World} {H : List Blk} {src dst : TypeId} {x y : V} {ob : Prop} {v : Value} (h : strQ P H src dst x = some (ob, y)) (hob : ob)
    (hr : HR E F w H) (hlt : ∀ b, F b → b < w.heap.size) (hx : VR E F w x v) : ∃ u, VR E F w y u ∧ ∀ w', Keep w w' → (convert src dst v).run P w' = .ok u w' := by
  unfold strQ at h
  split at h
  · rename_i k n hd
    split at h
    · rename_i k' hk
      simp only [Option.some.injEq, Prod.mk.injEq] at h
      obtain ⟨rfl, rfl⟩ := h
      have := int_of hx
      subst this
      exact ⟨_, .d _ _ (.str _), fun w' _ => by simp [convert, run_underlying (kint_spec hk), run_underlying (kstr_spec hd), Conv.intToString]⟩
    · cases h
  all_goals try (cases h; done)
  all_goals
    rename_i hd
    split at h
    · rename_i hb
      obtain ⟨e, hs, he⟩ := kbyt_spec hb
      simp only [Option.map_eq_some_iff, Prod.exists, Prod.mk.injEq] at h
      obtain ⟨p, ys, hq, rfl, rfl⟩ := h
      obtain ⟨cs, hsrc⟩ := srcQ_sound (P := P) hq hob.1 hr hlt hx
      have hv : ∃ a l c, v = .slice a l c := by
        first
          | (cases hx <;> exact ⟨_, _, _, rfl⟩)
          | (cases hx; rename_i hd'; cases hd' <;> exact ⟨_, _, _, rfl⟩)
      obtain ⟨a, l, c, rfl⟩ := hv
      exact ⟨_, .d _ _ (.str _), src_str hsrc hob.2 hs he (kstr_spec hd)⟩
    · cases h

/-- Which function of the model's own this is: 1 math/bits.Add64, 2 math/bits.Sub64. -/
def extN (P : Program) (g : FuncId) : Nat :=
  match P.funcs[g]? with
  | some fn => if fn.body.isNone && (Extern.allNextRows.lookup fn.name).isNone && (Extern.allNextRows.lookup fn.origin).isNone then
      if fn.name == "math/bits.Add64" then 1 else if fn.name == "math/bits.Sub64" then 2 else 0
    else 0
  | none => 0

def u64ok (x : Int) : Prop := 0 ≤ x ∧ x ≤ 18446744073709551615
def extR (n : Nat) (args : List V) : Option (Prop × V) :=
  match n, args with
  | 1, [.d (.int .u64 x), .d (.int .u64 y), .d (.int .u64 c)] => some (u64ok x ∧ u64ok y ∧ 0 ≤ c ∧ c ≤ 1, .tup [.d (.int .u64 ((x + y + c) % 18446744073709551616)), .d (.int .u64 ((x + y + c) / 18446744073709551616))])
  | 2, [.d (.int .u64 x), .d (.int .u64 y), .d (.int .u64 c)] => some (u64ok x ∧ u64ok y ∧ 0 ≤ c ∧ c ≤ 1, .tup [.d (.int .u64 ((x - y - c) % 18446744073709551616)), .d (.int .u64 (if x < y + c then 1 else 0))])
  | _, _ => none
def add64E : Array Value → Sem Value := fun args => do
  let (x, y, c) ← Extern.MathBitsCarry.three "Add64" args
  pure (Extern.MathBitsCarry.pair ((x + y + c) % Extern.MathBitsCarry.m64) ((x + y + c) / Extern.MathBitsCarry.m64))
def sub64E : Array Value → Sem Value := fun args => do
  let (x, y, b) ← Extern.MathBitsCarry.three "Sub64" args
  pure (Extern.MathBitsCarry.pair ((x + Extern.MathBitsCarry.m64 - y - b) % Extern.MathBitsCarry.m64) (if x < y + b then 1 else 0))
theorem run_add64E (x y c : Nat) (hc : c ≤ 1) (w : World) (P : Program) : (add64E #[.int .u64 x, .int .u64 y, .int .u64 c]).run P w = .ok (.tuple #[.int .u64 (((x + y + c) % 18446744073709551616 : Nat) : Int), .int .u64 (((x + y + c) / 18446744073709551616 : Nat) : Int)]) w := by
  have : c = 0 ∨ c = 1 := by omega
  rcases this with rfl | rfl <;> rfl
theorem run_sub64E (x y b : Nat) (hb : b ≤ 1) (w : World) (P : Program) : (sub64E #[.int .u64 x, .int .u64 y, .int .u64 b]).run P w = .ok (.tuple #[.int .u64 (((x + 18446744073709551616 - y - b) % 18446744073709551616 : Nat) : Int), .int .u64 ((if x < y + b then 1 else 0 : Nat) : Int)]) w := by
  have : b = 0 ∨ b = 1 := by omega
  rcases this with rfl | rfl <;> rfl

theorem ext_find {fn : Func} {n : String} {e : Array Value → Sem Value} (hn : fn.name = n) (h1 : Extern.allGenericRows.lookup n = none) (h2 : Extern.allTypedRows.lookup n = none) (h3 : Extern.allRows.lookup n = some e) : Extern.find fn = some e := by
  simp [Extern.find, hn, h1, h2, h3]

theorem extN_spec {P : Program} {g n : Nat} (h : extN P g = n) (hn : n ≠ 0) : ∃ fn, P.funcs[g]? = some fn ∧ (fn.name == "runtime.NumGoroutine") = false ∧ fn.body.isNone = true ∧ Extern.findNext fn = none ∧
    ((n = 1 ∧ Extern.find fn = some add64E) ∨ (n = 2 ∧ Extern.find fn = some sub64E)) := by
  unfold extN at h
  split at h
  · rename_i fn hf
    split at h
    · rename_i hc
      simp only [Bool.and_eq_true, Option.isNone_iff_eq_none] at hc
      obtain ⟨⟨hb, h1⟩, h2⟩ := hc
      have hnx : Extern.findNext fn = none := by simp [Extern.findNext, h1, h2]
      split at h
      · rename_i hnm
        have hnm : fn.name = "math/bits.Add64" := by simpa using hnm
        exact ⟨fn, hf, by rw [hnm]; decide, by simp [hb], hnx, .inl ⟨h.symm, ext_find hnm (by kernel_rfl) (by kernel_rfl) (by kernel_rfl)⟩⟩
      · split at h
        · rename_i hnm
          have hnm : fn.name = "math/bits.Sub64" := by simpa using hnm
          exact ⟨fn, hf, by rw [hnm]; decide, by simp [hb], hnx, .inr ⟨h.symm, ext_find hnm (by kernel_rfl) (by kernel_rfl) (by kernel_rfl)⟩⟩
        · exact absurd h.symm hn
    · exact absurd h.symm hn
  · exact absurd h.symm hn

theorem extR_sound {P : Program} {E : Env} {F : Nat → Prop} {w : World} {g : FuncId} {args : List V} {ob : Prop} {x : V} {cargs : Array Value} (h : extR (extN P g) args = some (ob, x)) (hob : ob)
    (hc : CR E F w args cargs) : ∃ v, VR E F w x v ∧ ∀ w', (callFunc g cargs).run P w' = .ok (.value v) w' := by
  have three : ∀ x y c : Int, args = [.d (.int .u64 x), .d (.int .u64 y), .d (.int .u64 c)] → cargs = #[.int .u64 x, .int .u64 y, .int .u64 c] := by
    intro x y c ha
    subst ha
    obtain ⟨hs, hr⟩ := hc
    obtain ⟨l⟩ := cargs
    match l, hs with
    | [a, b, d], _ =>
      have e0 := int_of (hr 0 _ a rfl rfl)
      have e1 := int_of (hr 1 _ b rfl rfl)
      have e2 := int_of (hr 2 _ d rfl rfl)
      rw [e0, e1, e2]
  have pair : ∀ a b : Int, VR E F w (.tup [.d (.int .u64 a), .d (.int .u64 b)]) (.tuple #[.int .u64 a, .int .u64 b]) := fun a b => by
    refine .tup _ _ rfl fun j u v hu hv => ?_
    match j with
    | 0 => simp at hu hv; subst hu hv; exact .d _ _ (.int _ _)
    | 1 => simp at hu hv; subst hu hv; exact .d _ _ (.int _ _)
    | j + 2 => simp at hu
  unfold extR at h
  split at h
  · rename_i x1 y1 c1 hn
    simp only [Option.some.injEq, Prod.mk.injEq] at h
    obtain ⟨rfl, rfl⟩ := h
    obtain ⟨⟨hx0, hx1⟩, ⟨hy0, hy1⟩, hc0, hc1⟩ := hob
    have ha := three _ _ _ rfl
    subst ha
    obtain ⟨a, rfl⟩ := Int.eq_ofNat_of_zero_le hx0
    obtain ⟨b, rfl⟩ := Int.eq_ofNat_of_zero_le hy0
    obtain ⟨c, rfl⟩ := Int.eq_ofNat_of_zero_le hc0
    obtain ⟨fn, hf, hnm, hb, hnx, hfd⟩ := extN_spec hn (by decide)
    have hfd : Extern.find fn = some add64E := by
      rcases hfd with ⟨_, h⟩ | ⟨h, _⟩
      · exact h
      · cases h
    refine ⟨_, pair _ _, fun w' => ?_⟩
    rw [run_callFunc_extern hf hnm hb hnx hfd, run_add64E a b c (by omega)]
    simp only [Result.andThen]
    congr 5
  · rename_i x1 y1 c1 hn
    simp only [Option.some.injEq, Prod.mk.injEq] at h
    obtain ⟨rfl, rfl⟩ := h
    obtain ⟨⟨hx0, hx1⟩, ⟨hy0, hy1⟩, hc0, hc1⟩ := hob
    have ha := three _ _ _ rfl
    subst ha
    obtain ⟨a, rfl⟩ := Int.eq_ofNat_of_zero_le hx0
    obtain ⟨b, rfl⟩ := Int.eq_ofNat_of_zero_le hy0
    obtain ⟨c, rfl⟩ := Int.eq_ofNat_of_zero_le hc0
    obtain ⟨fn, hf, hnm, hb, hnx, hfd⟩ := extN_spec hn (by decide)
    have hfd : Extern.find fn = some sub64E := by
      rcases hfd with ⟨h, _⟩ | ⟨_, h⟩
      · cases h
      · exact h
    refine ⟨_, pair _ _, fun w' => ?_⟩
    rw [run_callFunc_extern hf hnm hb hnx hfd, run_sub64E a b c (by omega)]
    simp only [Result.andThen]
    have e1 : (((a + 18446744073709551616 - b - c) % 18446744073709551616 : Nat) : Int) = ((a : Int) - b - c) % 18446744073709551616 := by omega
    have e2 : ((if a < b + c then 1 else 0 : Nat) : Int) = if (a : Int) < b + c then 1 else 0 := by split <;> split <;> omega
    rw [e1, e2]
  · cases h

end Go.Aw
