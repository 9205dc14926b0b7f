/-
  Abstract values and states for walks: data without addresses, what a world holds of it, and how that stays while a call runs. Plain definitions and lemmas over any program; no condition.
-/
import Derived.WalkKit
import Derived.OrdersHeld
import Derived.Below
import Derived.Laws.Rows
namespace Go.Aw
set_option linter.unusedSimpArgs false
set_option linter.unusedVariables false
open Go.RowKit

/-- Data: no address in it. 'sl': a slice that nobody writes any more, element by element, each element its cells. 'cp': a pointer into cells that nobody writes any more. -/
inductive D where
  | int (k : IntKind) (n : Int)
  | bool (b : Bool)
  | str (s : ByteArray)
  | sl (rows : List (List D))
  | agg (cells : List D)
  | tup (cells : List D)
  | cp (cells : List D) (off : Nat)
  | fn (f : Fn) (caps : List D)
  | nilfn
  | nilptr
  | nilmap
  | niliface
  | iface (t : TypeId) (x : D)
  deriving Inhabited

/-- What a temporary holds: data, or places in the blocks of the walk's own, by their numbers. -/
inductive V where
  | d (x : D)
  | agg (xs : List V)
  | tup (xs : List V)
  | ptr (id row off : Nat)
  | ref (id off len : Nat)
  | nil
  | fn (f : Fn) (caps : List V)
  | map (id : Nat)
  | iface (t : TypeId) (x : V)
  | opt (g : Bool) (x : V)
  | junk
  deriving Inhabited

/-- The value stands in the world for the data; 'F': the blocks that nobody writes any more. -/
inductive RD (F : Nat → Prop) (w : World) : D → Value → Prop where
  | int (k : IntKind) (n : Int) : RD F w (.int k n) (.int k n)
  | bool (b : Bool) : RD F w (.bool b) (.bool b)
  | str (s : ByteArray) : RD F w (.str s) (.string s)
  | nilfn : RD F w .nilfn .nilFunc
  | nilptr : RD F w .nilptr (.pointer none)
  | nilmap : RD F w .nilmap (.map none)
  | niliface : RD F w .niliface .nilIface
  | iface (t : TypeId) (x : D) (v : Value) (h : RD F w x v) : RD F w (.iface t x) (.iface t v)
  | sl0 (a : Option Addr) (cap : Nat) : RD F w (.sl []) (.slice a 0 cap)
  | sl (b off cap k : Nat) (rows : List (List D)) (c : Nat → Nat → Value) (hn : rows.length ≤ cap) (hF : F b)
      (hk : ∀ (i : Nat) (row : List D), rows[i]? = some row → row.length = k)
      (hc : ∀ i j : Nat, i < rows.length → j < k → w.cell? ⟨b, off + (i * k + j), none⟩ = some (c i j))
      (hr : ∀ (i : Nat) (row : List D) (j : Nat) (x : D), rows[i]? = some row → row[j]? = some x → RD F w x (c i j)) : RD F w (.sl rows) (.slice (some ⟨b, off, none⟩) rows.length cap)
  | agg (xs : List D) (cs : Array Value) (hs : cs.size = xs.length) (hr : ∀ (j : Nat) (x : D) (v : Value), xs[j]? = some x → cs[j]? = some v → RD F w x v) : RD F w (.agg xs) (.agg cs)
  | tup (xs : List D) (cs : Array Value) (hs : cs.size = xs.length) (hr : ∀ (j : Nat) (x : D) (v : Value), xs[j]? = some x → cs[j]? = some v → RD F w x v) : RD F w (.tup xs) (.tuple cs)
  | cp (b o off : Nat) (xs : List D) (c : Nat → Value) (hF : F b)
      (hc : ∀ j : Nat, j < xs.length → w.cell? ⟨b, o + j, none⟩ = some (c j))
      (hr : ∀ (j : Nat) (x : D), xs[j]? = some x → RD F w x (c j)) : RD F w (.cp xs off) (.pointer (some ⟨b, o + off, none⟩))
  | fn (f : Fn) (xs : List D) (cs : Array Value) (hs : cs.size = xs.length) (hr : ∀ (j : Nat) (x : D) (v : Value), xs[j]? = some x → cs[j]? = some v → RD F w x v) : RD F w (.fn f xs) (.func f #[] cs)

theorem RD.evo {F F' : Nat → Prop} {w w' : World} (hF : ∀ b, F b → F' b) (hw : ∀ b, F b → w'.heap[b]? = w.heap[b]?) {x : D} {v : Value} (h : RD F w x v) : RD F' w' x v := by
  induction h with
  | int k n => exact .int k n
  | bool b => exact .bool b
  | str s => exact .str s
  | nilfn => exact .nilfn
  | nilptr => exact .nilptr
  | nilmap => exact .nilmap
  | niliface => exact .niliface
  | iface t x v h ih => exact .iface t x v ih
  | sl0 a cap => exact .sl0 a cap
  | sl b off cap k rows c hn hb hk hc hr ih =>
    exact .sl b off cap k rows c hn (hF b hb) hk (fun i j hi hj => (World.cell?_of_block (w := w) (hw b hb)).trans (hc i j hi hj)) ih
  | agg xs cs hs hr ih => exact .agg xs cs hs ih
  | tup xs cs hs hr ih => exact .tup xs cs hs ih
  | cp b o off xs c hb hc hr ih =>
    exact .cp b o off xs c (hF b hb) (fun j hj => (World.cell?_of_block (w := w) (hw b hb)).trans (hc j hj)) ih
  | fn f xs cs hs hr ih => exact .fn f xs cs hs ih

/-- Of an own block: where it lies (nowhere: an empty slice without memory), how many cells an element has, how many elements there are. -/
structure En where
  blk : Option Nat
  k : Nat
  n : Nat

abbrev Env := List En

/-- Block b is a row of n cells. -/
def Sz (w : World) (b n : Nat) : Prop := ∃ cs t, w.heap[b]? = some (.cells cs t (0, 0)) ∧ cs.size = n

inductive VR (E : Env) (F : Nat → Prop) (w : World) : V → Value → Prop where
  | d (x : D) (v : Value) (h : RD F w x v) : VR E F w (.d x) v
  | agg (xs : List V) (cs : Array Value) (hs : cs.size = xs.length) (hr : ∀ (j : Nat) (x : V) (v : Value), xs[j]? = some x → cs[j]? = some v → VR E F w x v) : VR E F w (.agg xs) (.agg cs)
  | tup (xs : List V) (cs : Array Value) (hs : cs.size = xs.length) (hr : ∀ (j : Nat) (x : V) (v : Value), xs[j]? = some x → cs[j]? = some v → VR E F w x v) : VR E F w (.tup xs) (.tuple cs)
  | ptr (id row off b k m : Nat) (hE : E[id]? = some ⟨some b, k, m⟩) (hm : row < m) : VR E F w (.ptr id row off) (.pointer (some ⟨b, row * k + off, none⟩))
  | ref (id off len b k m : Nat) (a : Option Addr) (cap n : Nat) (hE : E[id]? = some ⟨some b, k, m⟩) (hm : off + len ≤ m) (ha : 0 < len ∨ off = 0 → a = some ⟨b, off * k, none⟩)
      (hl : len ≤ cap) (hb : Sz w b n) (hc : (off + cap) * k ≤ n) : VR E F w (.ref id off len) (.slice a len cap)
  | refv (id k m : Nat) (a : Option Addr) (hE : E[id]? = some ⟨none, k, m⟩) : VR E F w (.ref id 0 0) (.slice a 0 0)
  | nil (a : Option Addr) : VR E F w .nil (.slice a 0 0)
  | fn (f : Fn) (xs : List V) (cs : Array Value) (hs : cs.size = xs.length) (hr : ∀ (j : Nat) (x : V) (v : Value), xs[j]? = some x → cs[j]? = some v → VR E F w x v) : VR E F w (.fn f xs) (.func f #[] cs)
  | map (id b k m : Nat) (hE : E[id]? = some ⟨some b, k, m⟩) : VR E F w (.map id) (.map (some b))
  | iface (t : TypeId) (x : V) (v : Value) (h : VR E F w x v) : VR E F w (.iface t x) (.iface t v)
  | opt (g : Bool) (x : V) (v : Value) (h : g = true → VR E F w x v) (hu : g = false → v = undef) : VR E F w (.opt g x) v
  | junk (v : Value) : VR E F w .junk v

mutual
/-- Does a value speak of block i? -/
def V.has (i : Nat) : V → Bool
  | .d _ => false
  | .agg xs => V.hasL i xs
  | .tup xs => V.hasL i xs
  | .ptr id _ _ => id == i
  | .ref id _ _ => id == i
  | .nil => false
  | .fn _ xs => V.hasL i xs
  | .map id => id == i
  | .iface _ x => V.has i x
  | .opt _ x => V.has i x
  | .junk => false
def V.hasL (i : Nat) : List V → Bool
  | [] => false
  | x :: r => V.has i x || V.hasL i r
end

theorem hasL_of {i : Nat} : ∀ {xs : List V} {j : Nat} {x : V}, xs[j]? = some x → V.has i x = true → V.hasL i xs = true
  | [], j, x, h, _ => by simp at h
  | y :: r, 0, x, h, hx => by simp at h; subst h; simp [V.hasL, hx]
  | y :: r, j + 1, x, h, hx => by
    have := hasL_of (xs := r) (j := j) (by simpa using h) hx
    simp [V.hasL, this]

structure Evo (E : Env) (F : Nat → Prop) (w : World) (E' : Env) (F' : Nat → Prop) (w' : World) (ok : Nat → Prop) : Prop where
  up : ∀ b, F b → F' b
  same : ∀ b, F b → w'.heap[b]? = w.heap[b]?
  env : ∀ (id : Nat) (e : En), ok id → E[id]? = some e → E'[id]? = some e
  sz : ∀ b n, Sz w b n → Sz w' b n

theorem VR.evo {E E' : Env} {F F' : Nat → Prop} {w w' : World} {ok : Nat → Prop} (h : Evo E F w E' F' w' ok) {x : V} {v : Value} (hx : VR E F w x v)
    (hk : ∀ i, V.has i x = true → ok i) : VR E' F' w' x v := by
  induction hx with
  | d x v hd => exact .d x v (hd.evo h.up h.same)
  | agg xs cs hs hr ih => exact .agg xs cs hs fun j x v hx hv => ih j x v hx hv fun i hi => hk i (by simpa [V.has] using hasL_of hx hi)
  | tup xs cs hs hr ih => exact .tup xs cs hs fun j x v hx hv => ih j x v hx hv fun i hi => hk i (by simpa [V.has] using hasL_of hx hi)
  | ptr id row off b k m hE hm => exact .ptr id row off b k m (h.env _ _ (hk id (by simp [V.has])) hE) hm
  | ref id off len b k m a cap n hE hm ha hl hb hc => exact .ref id off len b k m a cap n (h.env _ _ (hk id (by simp [V.has])) hE) hm ha hl (h.sz _ _ hb) hc
  | refv id k m a hE => exact .refv id k m a (h.env _ _ (hk id (by simp [V.has])) hE)
  | nil a => exact .nil a
  | fn f xs cs hs hr ih => exact .fn f xs cs hs fun j x v hx hv => ih j x v hx hv fun i hi => hk i (by simpa [V.has] using hasL_of hx hi)
  | map id b k m hE => exact .map id b k m (h.env _ _ (hk id (by simp [V.has])) hE)
  | iface t x v hx ih => exact .iface t x v (ih fun i hi => hk i (by simpa [V.has] using hi))
  | opt g x v hx hu ih => exact .opt g x v (fun hg => ih hg fun i hi => hk i (by simpa [V.has] using hi)) hu
  | junk v => exact .junk v

/-- Data of one cell. -/
def D.leaf : D → Bool
  | .agg _ => false
  | .tup _ => false
  | _ => true

/-- An own block: gone (given up, or frozen); a row of elements of k cells each, all data; a few cells. -/
inductive Blk where
  | gone
  | data (k : Nat) (rows : List (List D))
  | cells (xs : List V)
  | vrs (k : Nat) (rs : List (List V))
  | mp (es : List (V × V))
  | it (x : V) (seen : List Nat) (n : Nat)
  deriving Inhabited

def BR (E : Env) (F : Nat → Prop) (w : World) (e : En) : Blk → Prop
  | .gone => True
  | .data k rows => e.k = k ∧ e.n = rows.length ∧ (∀ (i : Nat) (row : List D), rows[i]? = some row → row.length = k ∧ row.all D.leaf = true) ∧
    ((e.blk = none ∧ rows = []) ∨ ∃ b cs t, e.blk = some b ∧ w.heap[b]? = some (.cells cs t (0, 0)) ∧ rows.length * k ≤ cs.size ∧
      ∀ (i : Nat) (row : List D) (j : Nat) (x : D), rows[i]? = some row → row[j]? = some x → ∃ v, cs[i * k + j]? = some v ∧ RD F w x v)
  | .cells xs => e.k = xs.length ∧ e.n = 1 ∧ ∃ b cs t, e.blk = some b ∧ w.heap[b]? = some (.cells cs t (0, 0)) ∧ cs.size = xs.length ∧
      ∀ (j : Nat) (x : V), xs[j]? = some x → ∃ v, cs[j]? = some v ∧ VR E F w x v
  | .vrs k rs => e.k = k ∧ e.n = rs.length ∧ (∀ (i : Nat) (row : List V), rs[i]? = some row → row.length = k) ∧
    ((e.blk = none ∧ rs = []) ∨ ∃ b cs t, e.blk = some b ∧ w.heap[b]? = some (.cells cs t (0, 0)) ∧ rs.length * k ≤ cs.size ∧
      ∀ (i : Nat) (row : List V) (j : Nat) (x : V), rs[i]? = some row → row[j]? = some x → ∃ v, cs[i * k + j]? = some v ∧ v.oneCell' = true ∧ VR E F w x v)
  | .mp es => ∃ b mes, e.blk = some b ∧ w.heap[b]? = some (.map mes mes.size) ∧ mes.size = es.length ∧
      ∀ (i : Nat) (p : V × V) (m : MapEntry), es[i]? = some p → mes[i]? = some m → VR E F w p.1 m.key ∧ VR E F w p.2 m.val ∧ m.born = i
  | .it x seen n => ∃ b m, e.blk = some b ∧ w.heap[b]? = some (.mapIter (some m) n seen.toArray n) ∧ VR E F w x (.map (some m))

def V.hasLL (i : Nat) : List (List V) → Bool
  | [] => false
  | r :: l => V.hasL i r || V.hasLL i l
def V.hasM (i : Nat) : List (V × V) → Bool
  | [] => false
  | p :: l => V.has i p.1 || V.has i p.2 || V.hasM i l
def Blk.has (i : Nat) : Blk → Bool
  | .cells xs => V.hasL i xs
  | .vrs _ rs => V.hasLL i rs
  | .mp es => V.hasM i es
  | .it x _ _ => V.has i x
  | _ => false

/-- What a block holds. -/
def Blk.holds (x : V) : Blk → Prop
  | .cells xs => x ∈ xs
  | .vrs _ rs => ∃ row, row ∈ rs ∧ x ∈ row
  | .mp es => ∃ p, p ∈ es ∧ (x = p.1 ∨ x = p.2)
  | .it y _ _ => x = y
  | _ => False
/-- Each value that a block holds is turned. -/
def Blk.map1 (f : V → V) : Blk → Blk
  | .cells xs => .cells (xs.map f)
  | .vrs k rs => .vrs k (rs.map fun r => r.map f)
  | .mp es => .mp (es.map fun p => (f p.1, f p.2))
  | .it x seen n => .it (f x) seen n
  | b => b

theorem hasL_mem {i : Nat} {x : V} {xs : List V} (h : x ∈ xs) (hx : V.has i x = true) : V.hasL i xs = true := by
  obtain ⟨j, hj⟩ := List.getElem?_of_mem h
  exact hasL_of hj hx
theorem hasLL_mem {i : Nat} {r : List V} : ∀ {l : List (List V)}, r ∈ l → V.hasL i r = true → V.hasLL i l = true
  | [], h, _ => by cases h
  | s :: l, h, hr => by
    rcases List.mem_cons.1 h with rfl | h
    · simp [V.hasLL, hr]
    · simp [V.hasLL, hasLL_mem h hr]
theorem hasM_mem {i : Nat} {p : V × V} : ∀ {l : List (V × V)}, p ∈ l → (V.has i p.1 = true ∨ V.has i p.2 = true) → V.hasM i l = true
  | [], h, _ => by cases h
  | s :: l, h, hr => by
    rcases List.mem_cons.1 h with rfl | h
    · rcases hr with hr | hr <;> simp [V.hasM, hr]
    · simp [V.hasM, hasM_mem h hr]
theorem Blk.has_of {i : Nat} {x : V} {b : Blk} (h : b.holds x) (hx : V.has i x = true) : b.has i = true := by
  cases b with
  | gone => exact h.elim
  | data k rows => exact h.elim
  | cells xs => exact hasL_mem h hx
  | vrs k rs => obtain ⟨r, h1, h2⟩ := h; exact hasLL_mem h1 (hasL_mem h2 hx)
  | mp es =>
    obtain ⟨p, h1, h2⟩ := h
    refine hasM_mem h1 ?_
    rcases h2 with rfl | rfl
    · exact .inl hx
    · exact .inr hx
  | it y seen n => subst h; exact hx

theorem Blk.map1_id (b : Blk) : b.map1 (fun x => x) = b := by
  cases b <;> simp [Blk.map1]

/-- A block stands for the same, told by other values. -/
theorem BR.to {E E' : Env} {F F' : Nat → Prop} {w w' : World} {f : V → V} {e : En} {b : Blk} (hb : BR E F w e b) (hd : ∀ x v, RD F w x v → RD F' w' x v)
    (hx : ∀ x v, b.holds x → VR E F w x v → VR E' F' w' (f x) v) (hsame : ∀ c, e.blk = some c → w'.heap[c]? = w.heap[c]?) : BR E' F' w' e (b.map1 f) := by
  cases b with
  | gone => trivial
  | data k rows =>
    obtain ⟨h1, hn, h2, h3⟩ := hb
    refine ⟨h1, hn, h2, h3.imp id ?_⟩
    rintro ⟨b, cs, t, he, hw, hs, hr⟩
    exact ⟨b, cs, t, he, (hsame b he).trans hw, hs, fun i row j x hi hj => let ⟨v, hv, hq⟩ := hr i row j x hi hj; ⟨v, hv, hd x v hq⟩⟩
  | cells xs =>
    obtain ⟨h1, hn, b, cs, t, he, hw, hs, hr⟩ := hb
    refine ⟨by simpa using h1, hn, b, cs, t, he, (hsame b he).trans hw, by simpa using hs, fun j x hj => ?_⟩
    simp only [List.getElem?_map, Option.map_eq_some_iff] at hj
    obtain ⟨y, hy, rfl⟩ := hj
    obtain ⟨v, hv, hq⟩ := hr j y hy
    exact ⟨v, hv, hx y v (List.mem_of_getElem? hy) hq⟩
  | vrs k rs =>
    obtain ⟨h1, hn, h2, h3⟩ := hb
    refine ⟨h1, by simpa using hn, fun i row hi => ?_, ?_⟩
    · simp only [List.getElem?_map, Option.map_eq_some_iff] at hi
      obtain ⟨y, hy, rfl⟩ := hi
      simpa using h2 i y hy
    · rcases h3 with ⟨h3, rfl⟩ | ⟨b, cs, t, he, hw, hs, hr⟩
      · exact .inl ⟨h3, rfl⟩
      · refine .inr ⟨b, cs, t, he, (hsame b he).trans hw, by simpa using hs, fun i row j x hi hj => ?_⟩
        simp only [List.getElem?_map, Option.map_eq_some_iff] at hi
        obtain ⟨r0, hr0, rfl⟩ := hi
        simp only [List.getElem?_map, Option.map_eq_some_iff] at hj
        obtain ⟨y, hy, rfl⟩ := hj
        obtain ⟨v, hv, ho, hq⟩ := hr i r0 j y hr0 hy
        exact ⟨v, hv, ho, hx y v ⟨r0, List.mem_of_getElem? hr0, List.mem_of_getElem? hy⟩ hq⟩
  | mp es =>
    obtain ⟨b, mes, he, hw, hs, hr⟩ := hb
    refine ⟨b, mes, he, (hsame b he).trans hw, by simpa using hs, fun i p m hi hm => ?_⟩
    simp only [List.getElem?_map, Option.map_eq_some_iff] at hi
    obtain ⟨y, hy, rfl⟩ := hi
    obtain ⟨q1, q2, q3⟩ := hr i y m hy hm
    exact ⟨hx y.1 _ ⟨y, List.mem_of_getElem? hy, .inl rfl⟩ q1, hx y.2 _ ⟨y, List.mem_of_getElem? hy, .inr rfl⟩ q2, q3⟩
  | it x seen n =>
    obtain ⟨b, m, he, hw, hm⟩ := hb
    exact ⟨b, m, he, (hsame b he).trans hw, hx x _ rfl hm⟩

/-- Is the block there? -/
def Blk.live : Blk → Bool
  | .gone => false
  | _ => true

structure HR (E : Env) (F : Nat → Prop) (w : World) (H : List Blk) : Prop where
  len : E.length = H.length
  blk : ∀ (id : Nat) (e : En) (b : Blk), E[id]? = some e → H[id]? = some b → BR E F w e b
  free : ∀ (id b : Nat) (e : En) (blk : Blk), E[id]? = some e → e.blk = some b → H[id]? = some blk → blk.live = true → b < w.heap.size ∧ ¬ F b
  inj : ∀ (i j b : Nat) (ei ej : En) (bi bj : Blk), E[i]? = some ei → E[j]? = some ej → ei.blk = some b → ej.blk = some b → H[i]? = some bi → H[j]? = some bj → bi.live = true → bj.live = true → i = j

structure St where
  tm : List (Nat × V)
  heap : List Blk

def tget : List (Nat × V) → Nat → Option V
  | [], _ => none
  | (j, x) :: r, i => if i = j then some x else tget r i

def tput : List (Nat × V) → Nat → V → List (Nat × V)
  | [], i, x => [(i, x)]
  | (j, y) :: r, i, x => if i = j then (i, x) :: r else if i < j then (i, x) :: (j, y) :: r else (j, y) :: tput r i x

theorem tget_tput (l : List (Nat × V)) (i : Nat) (x : V) (j : Nat) : tget (tput l i x) j = if j = i then some x else tget l j := by
  induction l with
  | nil => simp [tput, tget]
  | cons p r ih =>
    obtain ⟨k, y⟩ := p
    simp only [tput]
    by_cases h1 : i = k
    · subst h1
      simp only [if_true, tget]
      by_cases h2 : j = i <;> simp [h2]
    · simp only [h1, if_false]
      by_cases h2 : i < k
      · simp only [h2, if_true, tget]
      · simp only [h2, if_false, tget, ih]
        by_cases h3 : j = i
        · subst h3; simp [h1]
        · simp [h3]

def St.get (s : St) (i : Nat) : V := (tget s.tm i).getD .junk
def St.put (s : St) (dst : Option Nat) (x : V) : St := match dst with | some d => { s with tm := tput s.tm d x } | none => s

/-- What a walk keeps: the world in which it began, the blocks that are read alone ('F0'), those of the caller's that it may write ('own'), where they lie, and which of them stay where they lie. -/
structure Base where
  w0 : World
  F0 : Nat → Prop
  own : Nat → Prop
  E0 : Env
  keep : List Nat

/-- No output, and what was drawn stays drawn. -/
structure Later (w w' : World) : Prop where
  output : w'.output = w.output
  drawn : w.drawn ≤ w'.drawn
theorem Later.refl (w : World) : Later w w := ⟨rfl, Nat.le_refl _⟩
theorem Later.trans {a b c : World} (h : Later b c) (h' : Later a b) : Later a c := ⟨h.output.trans h'.output, Nat.le_trans h'.drawn h.drawn⟩

structure Rel (B : Base) (s : St) (E : Env) (F : Nat → Prop) (w : World) : Prop where
  os : w.os = B.w0.os
  tape : w.tape = B.w0.tape
  output : Later B.w0 w
  size : B.w0.heap.size ≤ w.heap.size
  F0 : ∀ b, B.F0 b → F b
  only : ∀ b, F b → B.F0 b ∨ B.w0.heap.size ≤ b ∨ B.own b
  same : ∀ b, b < B.w0.heap.size → ¬ B.own b → w.heap[b]? = B.w0.heap[b]?
  lt : ∀ b, F b → b < w.heap.size
  hr : HR E F w s.heap
  src : ∀ (id b : Nat) (e : En) (blk : Blk), E[id]? = some e → s.heap[id]? = some blk → blk.live = true → e.blk = some b → B.w0.heap.size ≤ b ∨ B.own b
  keep : ∀ i, i ∈ B.keep → ∃ e, E[i]? = some e ∧ B.E0[i]? = some e
  sz : ∀ b n, Sz B.w0 b n → Sz w b n

structure Sim (B : Base) (s : St) (a : Act) (w : World) (E : Env) (F : Nat → Prop) : Prop where
  rel : Rel B s E F w
  defers : a.defers = []
  tm : ∀ i x, tget s.tm i = some x → ∃ v, a.tmps[i]? = some v ∧ VR E F w x v

theorem Sz.lt {w : World} {b n : Nat} (h : Sz w b n) : b < w.heap.size := by
  obtain ⟨cs, t, h, _⟩ := h
  rcases Nat.lt_or_ge b w.heap.size with h' | h'
  · exact h'
  · rw [Array.getElem?_eq_none h'] at h; cases h

theorem BR.evo {E E' : Env} {F F' : Nat → Prop} {w w' : World} {ok : Nat → Prop} (h : Evo E F w E' F' w' ok) {e : En} {b : Blk} (hb : BR E F w e b)
    (hk : ∀ i, b.has i = true → ok i) (hsame : ∀ c, e.blk = some c → w'.heap[c]? = w.heap[c]?) : BR E' F' w' e b := by
  have := BR.to (f := fun x => x) (E' := E') (F' := F') (w' := w') hb (fun x v hx => hx.evo h.up h.same) (fun x v hx hv => hv.evo h fun i hi => hk i (Blk.has_of hx hi)) hsame
  rwa [Blk.map1_id] at this

end Go.Aw
