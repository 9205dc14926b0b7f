/-
  What an operation that only computes or reads yields, in abstract values, with what it asks; and that the model's run yields just that, in every world in which the old blocks are as they were. Over any program; no condition.
-/
import Derived.Test.YtmmnjelmahcbaaaAwA
import Derived.Deep.MidRow
import Derived.Laws.Slices
import Derived.Laws.StructEq
import Derived.WalkLawsBesides
namespace Go.Aw
set_option linter.unusedSimpArgs false
set_option linter.unusedVariables false
open Go.RowKit

/-- Struct or array? How many cells? -/
def ksz (P : Program) (t : TypeId) : Option (Bool × Nat) :=
  match P.underlying t with
  | some d => (P.info? t).map fun i => (d.isRow, i.size)
  | none => none
/-- The offset of a field that has cells, and its type. -/
def kfld (P : Program) (t : TypeId) (i : Nat) : Option (Nat × TypeId) :=
  match P.underlying t with
  | some (.struct fs) => (fs[i]?).bind fun f => match P.info? f.type with
    | some j => if j.size = 0 then none else some (f.offset, f.type)
    | none => none
  | _ => none
/-- The elements of a slice (none) or an array (its length): the length, an element's cells, its type. -/
def kel (P : Program) (t : TypeId) : Option (Option Nat × Nat × TypeId) :=
  match P.underlying t with
  | some (.slice e) => (P.info? e).map fun i => (none, i.size, e)
  | some (.array n e) => (P.info? e).map fun i => (some n, i.size, e)
  | _ => none
def kint (P : Program) (t : TypeId) : Option IntKind :=
  match P.underlying t with
  | some (.int k) => some k
  | _ => none
def kstr (P : Program) (t : TypeId) : Bool :=
  match P.underlying t with
  | some .string => true
  | _ => false

def leafConst : Value → V
  | .int k n => .d (.int k n)
  | .bool b => .d (.bool b)
  | .string s => .d (.str s)
  | .pointer none => .d .nilptr
  | .slice _ 0 0 => .nil
  | .map none => .d .nilmap
  | .nilFunc => .d .nilfn
  | .nilIface => .d .niliface
  | _ => .junk
def ofConst : Value → V
  | .agg cs => .agg (cs.toList.map leafConst)
  | v => leafConst v
def St.ev (s : St) : Operand → V
  | .tmp t => s.get t
  | .const v => ofConst v
  | .func f => .d (.fn (.func f) [])
  | .global _ => .junk

def V.strip : V → Prop × V
  | .opt g x => (g = true, x)
  | v => (True, v)

/-- Two leaves of one kind. -/
def arith (op : BinOp) (x y : D) : Option (Prop × D) :=
  match op, x, y with
  | .add, .int k a, .int k' b => some (k = k', .int k (k.wrap (a + b)))
  | .sub, .int k a, .int k' b => some (k = k', .int k (k.wrap (a - b)))
  | .mul, .int k a, .int k' b => some (k = k', .int k (k.wrap (a * b)))
  | .quo, .int k a, .int k' b => some (k = k' ∧ b ≠ 0, .int k (k.wrap (a.tdiv b)))
  | .rem, .int k a, .int k' b => some (k = k' ∧ b ≠ 0, .int k (a.tmod b))
  | .shr, .int k a, .int _ b => some (0 ≤ b ∧ b ≤ k.bits, .int k (a / 2 ^ b.toNat))
  | .shl, .int k a, .int _ b => some (0 ≤ b ∧ b ≤ k.bits, .int k (k.wrap (a * 2 ^ b.toNat)))
  | .and, .int k a, .int k' b => some (k = k', .int k (bits .and k a b))
  | .or, .int k a, .int k' b => some (k = k', .int k (bits .or k a b))
  | .xor, .int k a, .int k' b => some (k = k', .int k (bits .xor k a b))
  | .eql, .int k a, .int k' b => some (k = k', .bool (a == b))
  | .neq, .int k a, .int k' b => some (k = k', .bool (a != b))
  | .lss, .int k a, .int k' b => some (k = k', .bool (a < b))
  | .leq, .int k a, .int k' b => some (k = k', .bool (a ≤ b))
  | .gtr, .int k a, .int k' b => some (k = k', .bool (a > b))
  | .geq, .int k a, .int k' b => some (k = k', .bool (a ≥ b))
  | .eql, .str a, .str b => some (True, .bool (a == b))
  | .neq, .str a, .str b => some (True, .bool (a != b))
  | .add, .str a, .str b => some (a.size + b.size ≤ 9223372036854775807, .str (a ++ b))
  | .lss, .str a, .str b => some (True, .bool (Op.bytesLess a.toList b.toList))
  | .leq, .str a, .str b => some (True, .bool (Op.bytesLess a.toList b.toList || a == b))
  | .gtr, .str a, .str b => some (True, .bool (!(Op.bytesLess a.toList b.toList || a == b)))
  | .geq, .str a, .str b => some (True, .bool (!Op.bytesLess a.toList b.toList))
  | .andNot, .int k a, .int k' b => some (k = k', .int k (bits .andNot k a b))
  | _, _, _ => none

/-- Of which kind a type of one cell is: a number, a truth value, a text. -/
def klf (P : Program) (t : TypeId) : Nat :=
  match P.underlying t with
  | some (.int _) => 1
  | some .bool => 2
  | some .string => 3
  | _ => 0
/-- A struct's fields, where all of them are compared. -/
def kst (P : Program) (t : TypeId) : Option (List (TypeId × Nat)) :=
  match P.underlying t with
  | some (.struct fs) => if !P.stoodInHeld t && !P.eqGuardType P.depth t && fs.toList.all (fun f => f.name != "_") then some (fs.toList.map fun f => (f.type, f.offset)) else none
  | _ => none
def cutQ (P : Program) (u : TypeId) (o : Nat) (xs : List V) : Option (Prop × V) :=
  match ksz P u with
  | some (true, n) => some (o + n ≤ xs.length, .agg ((xs.drop o).take n))
  | some (false, _) => some (o < xs.length, xs.getD o .junk)
  | none => none
def eqFs (P : Program) (f : TypeId → V → V → Option (Prop × Bool)) : List (TypeId × Nat) → List V → List V → Option (Prop × Bool)
  | [], _, _ => some (True, true)
  | (u, o) :: fs, xs, ys =>
    match cutQ P u o xs, cutQ P u o ys with
    | some (p, x), some (q, y) =>
      match f u x y, eqFs P f fs xs ys with
      | some (r, b), some (r', b') => some (p ∧ q ∧ r ∧ r', b && b')
      | _, _ => none
    | _, _ => none
/-- Equality, by content. -/
def eqQ (P : Program) : Nat → TypeId → V → V → Option (Prop × Bool)
  | 0, _, _, _ => none
  | d + 1, t, x, y =>
    match x, y with
    | .d (.int k a), .d (.int k' b) => if klf P t = 1 then some (k = k', a == b) else none
    | .d (.bool a), .d (.bool b) => if klf P t = 2 then some (True, a == b) else none
    | .d (.str a), .d (.str b) => if klf P t = 3 then some (True, a == b) else none
    | .agg xs, .agg ys =>
      match kst P t with
      | some fs => eqFs P (eqQ P d) fs xs ys
      | none => none
    | _, _ => none
/-- A binary operator. -/
def binQ (P : Program) (op : BinOp) (t : TypeId) (x y : V) : Option (Prop × V) :=
  match x, y with
  | .d a, .d b =>
    match arith op a b with
    | some r => some (r.1, .d r.2)
    | none =>
      match op, a, b with
      | .eql, .bool a, .bool b => if klf P t = 2 then some (True, .d (.bool (a == b))) else none
      | .neq, .bool a, .bool b => if klf P t = 2 then some (True, .d (.bool (a != b))) else none
      | _, _, _ => none
  | .agg xs, .agg ys =>
    match op with
    | .eql => (eqQ P 4 t (.agg xs) (.agg ys)).map fun r => (r.1, .d (.bool r.2))
    | .neq => (eqQ P 4 t (.agg xs) (.agg ys)).map fun r => (r.1, .d (.bool (!r.2)))
    | _ => none
  | _, _ => none

def boolOf : V → Option (Prop × Bool)
  | .d (.bool b) => some (True, b)
  | .opt g (.d (.bool b)) => some (g = true, b)
  | _ => none

/-- A slice's type? -/
def ksl (P : Program) (t : TypeId) : Bool :=
  match P.underlying t with
  | some (.slice _) => true
  | _ => false
/-- How many elements, letters. -/
def lenQ (P : Program) (t : TypeId) : V → Option Nat
  | .ref _ _ n => if ksl P t then some n else none
  | .d (.sl rows) => if ksl P t then some rows.length else none
  | .d (.str s) => if kstr P t then some s.size else none
  | .nil => if ksl P t then some 0 else none
  | _ => none

def loadQ (P : Program) (H : List Blk) (t : TypeId) : V → Option (Prop × V)
  | .ptr id row off =>
    match ksz P t, H[id]? with
    | some (true, n), some (.data k rows) => some (off + n ≤ k, .agg ((((rows[row]?.getD []).drop off).take n).map .d))
    | some (false, 1), some (.data k rows) => some (off < k, .d ((rows[row]?.getD []).getD off .nilptr))
    | some (true, n), some (.cells xs) => some (off + n ≤ xs.length, .agg ((xs.drop off).take n))
    | some (false, 1), some (.cells xs) => some (off < xs.length, xs.getD off .junk)
    | some (true, n), some (.vrs k rs) => some (off + n ≤ k, .agg (((rs[row]?.getD []).drop off).take n))
    | some (false, 1), some (.vrs k rs) => some (off < k, (rs[row]?.getD []).getD off .junk)
    | _, _ => none
  | .d (.cp cells off) =>
    match ksz P t with
    | some (true, n) => some (off + n ≤ cells.length, .agg (((cells.drop off).take n).map .d))
    | some (false, 1) => some (off < cells.length, .d (cells.getD off .nilptr))
    | _ => none
  | _ => none

def fieldAddrQ (P : Program) (t : TypeId) (i : Nat) : V → Option (Prop × V)
  | .ptr id row off => (kfld P t i).map fun f => (True, .ptr id row (off + f.1))
  | .d (.cp cells off) => (kfld P t i).map fun f => (True, .d (.cp cells (off + f.1)))
  | _ => none

def indexAddrQ (P : Program) (H : List Blk) (t : TypeId) (x : V) (i : Int) : Option (Prop × V) :=
  match x with
  | .ref id off len =>
    match kel P t, H[id]? with
    | some (none, n, _), some (.data k _) => some (n = k ∧ 0 ≤ i ∧ i < len, .ptr id (off + i.toNat) 0)
    | some (none, n, _), some (.vrs k _) => some (n = k ∧ 0 ≤ i ∧ i < len, .ptr id (off + i.toNat) 0)
    | _, _ => none
  | .d (.sl rows) =>
    match kel P t with
    | some (none, n, _) => some (0 ≤ i ∧ i < rows.length ∧ (∀ row ∈ rows, row.length = n), .d (.cp (rows[i.toNat]?.getD []) 0))
    | _ => none
  | .ptr id row off =>
    match kel P t with
    | some (some m, n, _) => some (0 ≤ i ∧ i < m, .ptr id row (off + i.toNat * n))
    | _ => none
  | .d (.cp cells off) =>
    match kel P t with
    | some (some m, n, _) => some (0 ≤ i ∧ i < m, .d (.cp cells (off + i.toNat * n)))
    | _ => none
  | _ => none

def fieldQ (P : Program) (t : TypeId) (i : Nat) : V → Option (Prop × V)
  | .agg xs =>
    match kfld P t i with
    | some (o, u) => match ksz P u with
      | some (true, n) => some (o + n ≤ xs.length, .agg ((xs.drop o).take n))
      | some (false, 1) => some (o < xs.length, xs.getD o .junk)
      | _ => none
    | none => none
  | _ => none

def indexQ (P : Program) (t : TypeId) (x : V) (i : Int) : Option (Prop × V) :=
  match x with
  | .agg xs =>
    match kel P t with
    | some (some m, n, u) => match ksz P u with
      | some (true, _) => some (0 ≤ i ∧ i < m ∧ m * n ≤ xs.length, .agg ((xs.drop (i.toNat * n)).take n))
      | some (false, 1) => some (n = 1 ∧ 0 ≤ i ∧ i < m ∧ m ≤ xs.length, xs.getD i.toNat .junk)
      | _ => none
    | _ => none
  | .d (.str s) => if kstr P t then some (0 ≤ i ∧ i < s.size, .d (.int .u8 ((s.data.getD i.toNat 0).toNat : Int))) else none
  | _ => none

/-- The bounds of a slice expression, where they are given. -/
def bnd (s : St) (dflt : Int) : Option Operand → Option Int
  | none => some dflt
  | some x => match s.ev x with
    | .d (.int _ n) => some n
    | _ => none

def sliceQ (P : Program) (H : List Blk) (t : TypeId) (x : V) (lo : Int) (hi : Option Int) (mx : Option Int) : Option (Prop × V) :=
  match x, hi, mx with
  | .ref id off len, h, none =>
    match kel P t, H[id]? with
    | some (none, n, _), some (.data k _) => some (n = k ∧ 0 ≤ lo ∧ lo ≤ h.getD len ∧ h.getD len ≤ len, .ref id (off + lo.toNat) ((h.getD len).toNat - lo.toNat))
    | some (none, n, _), some (.vrs k _) => some (n = k ∧ 0 ≤ lo ∧ lo ≤ h.getD len ∧ h.getD len ≤ len, .ref id (off + lo.toNat) ((h.getD len).toNat - lo.toNat))
    | _, _ => none
  | .d (.sl rows), h, none =>
    match kel P t with
    | some (none, n, _) => some (0 ≤ lo ∧ lo ≤ h.getD rows.length ∧ h.getD rows.length ≤ rows.length ∧ (∀ row ∈ rows, row.length = n), .d (.sl ((rows.drop lo.toNat).take ((h.getD rows.length).toNat - lo.toNat))))
    | _ => none
  | .d (.sl _), some h, some m =>
    match kel P t with
    | some (none, _, _) => some (lo = 0 ∧ h = 0 ∧ m = 0, .nil)
    | _ => none
  | .nil, h, none =>
    match kel P t with
    | some (none, _, _) => some (lo = 0 ∧ h.getD 0 = 0, .nil)
    | _ => none
  | .d (.str b), h, none => if kstr P t then some (0 ≤ lo ∧ lo ≤ h.getD b.size ∧ h.getD b.size ≤ b.size, .d (.str (b.extract lo.toNat (h.getD b.size).toNat))) else none
  | _, _, _ => none

/-- Builtins that only compute. -/
def builtQ (P : Program) (s : St) (b : Builtin) (args : List Operand) (ts : List TypeId) : Option (Prop × V) :=
  match b, args, ts with
  | .len, [x], [t] =>
    match lenQ P t (s.ev x).strip.2 with
    | some n => some ((s.ev x).strip.1, .d (.int .i64 n))
    | none => none
  | .max, [x, y], _ =>
    match (s.ev x).strip.2, (s.ev y).strip.2 with
    | .d (.int k a), .d (.int _ b) => some ((s.ev x).strip.1 ∧ (s.ev y).strip.1, .d (.int k (max a b)))
    | _, _ => none
  | .min, [x, y], _ =>
    match (s.ev x).strip.2, (s.ev y).strip.2 with
    | .d (.int k a), .d (.int _ b) => some ((s.ev x).strip.1 ∧ (s.ev y).strip.1, .d (.int k (min a b)))
    | _, _ => none
  | .max, [x, y, z, u], _ =>
    match (s.ev x).strip.2, (s.ev y).strip.2, (s.ev z).strip.2, (s.ev u).strip.2 with
    | .d (.int k a), .d (.int _ b), .d (.int _ c), .d (.int _ e) => some ((s.ev x).strip.1 ∧ (s.ev y).strip.1 ∧ (s.ev z).strip.1 ∧ (s.ev u).strip.1, .d (.int k (max (max (max a b) c) e)))
    | _, _, _, _ => none
  | _, _, _ => none

/-- An operation that only computes or reads: what it asks, what it yields. -/
def opQ (P : Program) (s : St) : Op → Option (Prop × V)
  | .move x => some (True, s.ev x)
  | .assign x => some (True, s.ev x)
  | .pick c a b =>
    match boolOf (s.ev c), boolOf (s.ev a), boolOf (s.ev b) with
    | some (r, c), some (p, x), some (q, y) => some (r ∧ (c = true → p) ∧ (c = false → q), .d (.bool (bif c then x else y)))
    | _, _, _ => none
  | .load t x => (loadQ P s.heap t (s.ev x).strip.2).map fun r => ((s.ev x).strip.1 ∧ r.1, r.2)
  | .fieldAddr t x i => (fieldAddrQ P t i (s.ev x).strip.2).map fun r => ((s.ev x).strip.1 ∧ r.1, r.2)
  | .indexAddr t x i =>
    match (s.ev i).strip.2 with
    | .d (.int _ n) => (indexAddrQ P s.heap t (s.ev x).strip.2 n).map fun r => ((s.ev x).strip.1 ∧ (s.ev i).strip.1 ∧ r.1, r.2)
    | _ => none
  | .field t x i => (fieldQ P t i (s.ev x).strip.2).map fun r => ((s.ev x).strip.1 ∧ r.1, r.2)
  | .index t x i =>
    match (s.ev i).strip.2 with
    | .d (.int _ n) => (indexQ P t (s.ev x).strip.2 n).map fun r => ((s.ev x).strip.1 ∧ (s.ev i).strip.1 ∧ r.1, r.2)
    | _ => none
  | .binOp op t x y _ => (binQ P op t (s.ev x).strip.2 (s.ev y).strip.2).map fun r => ((s.ev x).strip.1 ∧ (s.ev y).strip.1 ∧ r.1, r.2)
  | .unOp .not _ x =>
    match (s.ev x).strip.2 with
    | .d (.bool b) => some ((s.ev x).strip.1, .d (.bool (!b)))
    | _ => none
  | .unOp .neg _ x =>
    match (s.ev x).strip.2 with
    | .d (.int k n) => some ((s.ev x).strip.1, .d (.int k (k.wrap (0 - n))))
    | _ => none
  | .unOp .xor _ x =>
    match (s.ev x).strip.2 with
    | .d (.int k n) => some ((s.ev x).strip.1, .d (.int k (bits .xor k (if k.signed then -1 else k.max) n)))
    | _ => none
  | .convert src dst x =>
    match (s.ev x).strip.2, kint P src, kint P dst with
    | .d (.int _ n), some _, some k => some ((s.ev x).strip.1, .d (.int k (k.wrap n)))
    | _, _, _ => none
  | .extract x i =>
    match (s.ev x).strip.2 with
    | .tup xs => some ((s.ev x).strip.1 ∧ i < xs.length, xs.getD i .junk)
    | _ => none
  | .slice t x lo hi mx =>
    match bnd s 0 lo, hi.map (fun h => bnd s 0 (some h)), mx.map (fun h => bnd s 0 (some h)) with
    | some l, none, none => (sliceQ P s.heap t (s.ev x).strip.2 l none none).map fun r => ((s.ev x).strip.1 ∧ r.1, r.2)
    | some l, some (some h), none => (sliceQ P s.heap t (s.ev x).strip.2 l (some h) none).map fun r => ((s.ev x).strip.1 ∧ r.1, r.2)
    | some l, some (some h), some (some m) => (sliceQ P s.heap t (s.ev x).strip.2 l (some h) (some m)).map fun r => ((s.ev x).strip.1 ∧ r.1, r.2)
    | _, _, _ => none
  | .makeFunc f first caps => if first.size = 0 then some (True, .fn f (caps.toList.map s.ev)) else none
  | .nilCheck x =>
    match (s.ev x).strip.2 with
    | .ptr id row off => some ((s.ev x).strip.1, .ptr id row off)
    | .d (.cp cells off) => some ((s.ev x).strip.1, .d (.cp cells off))
    | .fn (.func f) caps => some ((s.ev x).strip.1, .fn (.func f) caps)
    | .d (.fn (.func f) caps) => some ((s.ev x).strip.1, .d (.fn (.func f) caps))
    | .iface t y => some ((s.ev x).strip.1, .iface t y)
    | _ => none
  | .call c =>
    match c.callee with
    | .builtin b => builtQ P s b c.args.toList c.argTypes.toList
    | _ => none
  | _ => none

end Go.Aw
