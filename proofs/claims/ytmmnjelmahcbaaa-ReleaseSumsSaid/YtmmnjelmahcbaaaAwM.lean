/-
  What a call comes to, in abstract values; results that are handed back. Over any program; no condition.
-/
import Derived.Test.YtmmnjelmahcbaaaAwV
namespace Go.Aw
set_option linter.unusedSimpArgs false
set_option linter.unusedVariables false
open Go.RowKit

mutual
def V.sh (n : Nat) : V → V
  | .agg xs => .agg (V.shL n xs)
  | .tup xs => .tup (V.shL n xs)
  | .ptr id row off => .ptr (n + id) row off
  | .ref id off len => .ref (n + id) off len
  | .fn f xs => .fn f (V.shL n xs)
  | .map id => .map (n + id)
  | .iface t x => .iface t (V.sh n x)
  | .opt g x => .opt g (V.sh n x)
  | x => x
def V.shL (n : Nat) : List V → List V
  | [] => []
  | x :: r => V.sh n x :: V.shL n r
end
theorem shL_eq (n : Nat) : ∀ xs : List V, V.shL n xs = xs.map (V.sh n)
  | [] => rfl
  | x :: r => by simp [V.shL, shL_eq n r]
def Blk.sh (n : Nat) : Blk → Blk
  | .cells xs => .cells (V.shL n xs)
  | .vrs k rs => .vrs k (rs.map fun r => V.shL n r)
  | .mp es => .mp (es.map fun p => (V.sh n p.1, V.sh n p.2))
  | .it x seen m => .it (V.sh n x) seen m
  | b => b
def heapSh (n : Nat) : List Blk → List Blk
  | [] => []
  | b :: r => b.sh n :: heapSh n r
theorem heapSh_eq (n : Nat) : ∀ l, heapSh n l = l.map (Blk.sh n)
  | [] => rfl
  | b :: r => by simp [heapSh, heapSh_eq n r]
theorem Blk.sh_map1 (n : Nat) (b : Blk) : b.sh n = b.map1 (V.sh n) := by
  cases b <;> simp [Blk.sh, Blk.map1, shL_eq]
theorem Blk.live_sh (n : Nat) (b : Blk) : (b.sh n).live = b.live := by cases b <;> rfl

theorem sh_VR {E0 E : Env} {F : Nat → Prop} {w : World} {x : V} {v : Value} (hx : VR E F w x v) : VR (E0 ++ E) F w (x.sh E0.length) v := by
  have get : ∀ (id : Nat) (e : En), E[id]? = some e → (E0 ++ E)[E0.length + id]? = some e := fun id e h => by
    rw [List.getElem?_append_right (by omega), show E0.length + id - E0.length = id by omega]; exact h
  induction hx with
  | d x v hd => exact .d x v hd
  | agg xs cs hs hrr ih =>
    simp only [V.sh, shL_eq]
    refine .agg _ cs (by simpa using hs) fun j x v hx hv => ?_
    simp only [List.getElem?_map, Option.map_eq_some_iff] at hx
    obtain ⟨y, hy, rfl⟩ := hx
    exact ih j y v hy hv
  | tup xs cs hs hrr ih =>
    simp only [V.sh, shL_eq]
    refine .tup _ cs (by simpa using hs) fun j x v hx hv => ?_
    simp only [List.getElem?_map, Option.map_eq_some_iff] at hx
    obtain ⟨y, hy, rfl⟩ := hx
    exact ih j y v hy hv
  | fn f xs cs hs hrr ih =>
    simp only [V.sh, shL_eq]
    refine .fn f _ cs (by simpa using hs) fun j x v hx hv => ?_
    simp only [List.getElem?_map, Option.map_eq_some_iff] at hx
    obtain ⟨y, hy, rfl⟩ := hx
    exact ih j y v hy hv
  | iface t x v hx ih => exact .iface t _ v ih
  | opt g x v hx hu ih => exact .opt g _ v ih hu
  | junk v => exact .junk v
  | nil a => exact .nil a
  | map id b k m hE => exact .map _ b k m (get _ _ hE)
  | ptr id row off b k m hE hm => exact .ptr _ row off b k m (get _ _ hE) hm
  | ref id off len b k m a cap n hE hm ha hl hbz hcp => exact .ref _ off len b k m a cap n (get _ _ hE) hm ha hl hbz hcp
  | refv id k m a hE => exact .refv _ k m a (get _ _ hE)

/-- The blocks that are a walk's own. -/
def own (E : Env) (H : List Blk) (b : Nat) : Prop := ∃ (id : Nat) (e : En) (blk : Blk), E[id]? = some e ∧ H[id]? = some blk ∧ blk.live = true ∧ e.blk = some b

/-- The function has a body of its own and may be called. -/
def callable (P : Program) (f : FuncId) : Prop := ∃ fn, P.funcs[f]? = some fn ∧ (fn.name == "runtime.NumGoroutine") = false ∧ fn.body.isNone = false

/-- **A contract**: called with values that stand for 'args', over own blocks 'H', the function returns, without a panic; the result and the own blocks behind it meet 'R'; nothing else that was there has turned. -/
def AC (P : Program) (f : FuncId) (args : List V) (H : List Blk) (kp : List Nat) (R : V → List Blk → Prop) : Prop :=
  callable P f ∧ ∀ (w : World) (cargs : Array Value) (E : Env) (F : Nat → Prop), HR E F w H → (∀ b, F b → b < w.heap.size) → (∀ i, i ∈ kp → i < H.length) → CR E F w args cargs →
    Calls P f cargs w fun e w' => ∃ v x H' E' F', e = .returned v ∧ R x H' ∧ Rel ⟨w, F, own E H, E, kp⟩ ⟨[], H'⟩ E' F' w' ∧ VR E' F' w' x v

theorem AC.mono {P : Program} {f : FuncId} {args : List V} {H : List Blk} {kp : List Nat} {R R' : V → List Blk → Prop} (h : AC P f args H kp R) (hr : ∀ x H', R x H' → R' x H') : AC P f args H kp R' :=
  ⟨h.1, fun w cargs E F h1 h2 h3 h4 => (h.2 w cargs E F h1 h2 h3 h4).mono fun e w' ⟨v, x, H', E', F', q1, q2, q3⟩ => ⟨v, x, H', E', F', q1, hr _ _ q2, q3⟩⟩

def ofD : D → V
  | .agg xs => .agg (xs.map .d)
  | .tup xs => .tup (xs.map .d)
  | x => .d x

/-- A contract over data alone. -/
def PC (P : Program) (f : FuncId) (args : List D) (R : V → List Blk → Prop) : Prop := AC P f (args.map ofD) [] [] R

theorem PC.mono {P : Program} {f : FuncId} {args : List D} {R R' : V → List Blk → Prop} (h : PC P f args R) (hr : ∀ x H', R x H' → R' x H') : PC P f args R' := AC.mono h hr

theorem ofD_sound {E : Env} {F : Nat → Prop} {w : World} {x : D} {v : Value} (h : RD F w x v) : VR E F w (ofD x) v := by
  cases h with
  | agg xs cs hs hr =>
    refine .agg _ cs (by simpa using hs) fun j y u hy hu => ?_
    simp only [List.getElem?_map, Option.map_eq_some_iff] at hy
    obtain ⟨z, hz, rfl⟩ := hy
    exact .d _ _ (hr j z u hz hu)
  | tup xs cs hs hr =>
    refine .tup _ cs (by simpa using hs) fun j y u hy hu => ?_
    simp only [List.getElem?_map, Option.map_eq_some_iff] at hy
    obtain ⟨z, hz, rfl⟩ := hy
    exact .d _ _ (hr j z u hz hu)
  | int k n => exact .d _ _ (.int k n)
  | bool b => exact .d _ _ (.bool b)
  | str s => exact .d _ _ (.str s)
  | nilfn => exact .d _ _ .nilfn
  | nilptr => exact .d _ _ .nilptr
  | nilmap => exact .d _ _ .nilmap
  | niliface => exact .d _ _ .niliface
  | iface t x v h => exact .d _ _ (.iface t x v h)
  | sl0 a cap => exact .d _ _ (.sl0 a cap)
  | sl b off cap k rows c hn hF hk hc hr => exact .d _ _ (.sl b off cap k rows c hn hF hk hc hr)
  | cp b o off xs c hF hc hr => exact .d _ _ (.cp b o off xs c hF hc hr)
  | fn f xs cs hs hr => exact .d _ _ (.fn f xs cs hs hr)

/-- Data that a value is. -/
def dV : V → Option D
  | .d x => some x
  | .nil => some (.sl [])
  | .agg xs => (dOfs xs).map .agg
  | .fn f xs => (dOfs xs).map (.fn f)
  | .iface t (.d x) => some (.iface t x)
  | .iface t (.agg xs) => (dOfs xs).map fun ds => .iface t (.agg ds)
  | _ => none

theorem dOfs_RD {E : Env} {F : Nat → Prop} {w : World} {xs : List V} {ds : List D} {cs : Array Value} (h : dOfs xs = some ds) (hs : cs.size = xs.length)
    (hr : ∀ (j : Nat) (x : V) (v : Value), xs[j]? = some x → cs[j]? = some v → VR E F w x v) : cs.size = ds.length ∧ ∀ (j : Nat) (x : D) (v : Value), ds[j]? = some x → cs[j]? = some v → RD F w x v := by
  obtain ⟨h1, h2⟩ := dOfs_get h
  refine ⟨by omega, fun j x v hx hv => ?_⟩
  obtain ⟨y, hy, hd⟩ := h2 j x hx
  exact dOf_sound hd (hr j y v hy hv)

theorem dV_sound {E : Env} {F : Nat → Prop} {w : World} {x : V} {d : D} {v : Value} (h : dV x = some d) (hx : VR E F w x v) : RD F w d v := by
  unfold dV at h
  split at h
  · simp at h; subst h; cases hx; assumption
  · simp at h; subst h; cases hx; exact .sl0 _ _
  · simp only [Option.map_eq_some_iff] at h
    obtain ⟨ds, hds, rfl⟩ := h
    cases hx with
    | agg xs cs hs hr => obtain ⟨q1, q2⟩ := dOfs_RD hds hs hr; exact .agg _ _ q1 q2
  · simp only [Option.map_eq_some_iff] at h
    obtain ⟨ds, hds, rfl⟩ := h
    cases hx with
    | fn f xs cs hs hr => obtain ⟨q1, q2⟩ := dOfs_RD hds hs hr; exact .fn _ _ _ q1 q2
  · simp at h; subst h
    cases hx with
    | iface t x v hx => cases hx with | d _ _ hd => exact .iface _ _ _ hd
  · simp only [Option.map_eq_some_iff] at h
    obtain ⟨ds, hds, rfl⟩ := h
    cases hx with
    | iface t x v hx =>
      cases hx with
      | agg xs cs hs hr => obtain ⟨q1, q2⟩ := dOfs_RD hds hs hr; exact .iface _ _ _ (.agg _ _ q1 q2)
  · cases h

def dVs : List V → Option (List D)
  | [] => some []
  | x :: r => match dV x, dVs r with
    | some d, some ds => some (d :: ds)
    | _, _ => none

theorem dVs_sound {E E' : Env} {F : Nat → Prop} {w : World} : ∀ {xs : List V} {ds : List D} {vs : List Value}, dVs xs = some ds → vs.length = xs.length →
    (∀ (j : Nat) (x : V) (v : Value), xs[j]? = some x → vs[j]? = some v → VR E F w x v) → CR E' F w (ds.map ofD) vs.toArray
  | [], ds, vs, h, hl, _ => by
    simp [dVs] at h
    subst h
    have : vs = [] := List.length_eq_zero_iff.1 hl
    subst this
    exact ⟨rfl, by simp⟩
  | x :: r, ds, [], h, hl, _ => by simp at hl
  | x :: r, ds, v :: vs, h, hl, hr => by
    simp only [dVs] at h
    split at h
    · rename_i d ds' hd hds
      simp at h
      subst h
      obtain ⟨q1, q2⟩ := dVs_sound (E' := E') (vs := vs) hds (by simpa using hl) (fun j y u hy hu => hr (j + 1) y u (by simpa using hy) (by simpa using hu))
      refine ⟨by simpa using q1, fun j y u hy hu => ?_⟩
      cases j with
      | zero =>
        simp at hy hu
        subst hy hu
        exact ofD_sound (dV_sound hd (hr 0 x v rfl rfl))
      | succ j => exact q2 j y u (by simpa using hy) (by simpa using hu)
    · cases h

/-- What a call over data hands back joins the caller's own. -/
theorem merge {B : Base} {s : St} {a : Act} {w w' : World} {E E' : Env} {F F' : Nat → Prop} {H' : List Blk} {x : V} {v : Value} (hs : Sim B s a w E F)
    (hr : Rel ⟨w, F, own [] [], [], []⟩ ⟨[], H'⟩ E' F' w') (hx : VR E' F' w' x v) :
    Sim B { s with heap := s.heap ++ heapSh s.heap.length H' } a w' (E ++ E') F' ∧ VR (E ++ E') F' w' (x.sh s.heap.length) v ∧ Keep w w' := by
  have hno : ∀ b, ¬ own [] [] b := fun b ⟨id, e, blk, h, _⟩ => by simp at h
  have keep : Keep w w' := fun b hb => hr.same b hb (hno b)
  have hF : ∀ b, F' b → F b ∨ w.heap.size ≤ b := fun b hb => by
    rcases hr.only b hb with h | h | h
    · exact .inl h
    · exact .inr h
    · exact absurd h (hno b)
  have hs' := hs.rel
  have evo : Evo E F w (E ++ E') F' w' (fun _ => True) := ⟨hr.F0, fun b hb => keep b (hs'.lt b hb), fun j e _ h => by rw [List.getElem?_append_left (List.getElem?_eq_some_iff.1 h).1]; exact h, fun b n h => by
    obtain ⟨cs, t, q1, q2⟩ := h
    exact ⟨cs, t, (keep b (Sz.lt ⟨cs, t, q1, q2⟩)).trans q1, q2⟩⟩
  have hlen : E.length = s.heap.length := hs'.hr.len
  have hget : ∀ (j : Nat) (ej : En) (bj : Blk), (E ++ E')[j]? = some ej → (s.heap ++ heapSh s.heap.length H')[j]? = some bj →
      (E[j]? = some ej ∧ s.heap[j]? = some bj) ∨ (E.length ≤ j ∧ E'[j - E.length]? = some ej ∧ ∃ b0, H'[j - E.length]? = some b0 ∧ bj = b0.sh s.heap.length) := fun j ej bj h1 h2 => by
    rcases Nat.lt_or_ge j E.length with h | h
    · rw [List.getElem?_append_left h] at h1
      rw [List.getElem?_append_left (by omega)] at h2
      exact .inl ⟨h1, h2⟩
    · rw [List.getElem?_append_right h] at h1
      rw [List.getElem?_append_right (by omega), heapSh_eq, List.getElem?_map, Option.map_eq_some_iff] at h2
      obtain ⟨b0, h0, rfl⟩ := h2
      exact .inr ⟨h, h1, b0, by rw [hlen]; exact h0, rfl⟩
  have hnew : ∀ (j b : Nat) (e : En) (blk : Blk), E'[j]? = some e → H'[j]? = some blk → blk.live = true → e.blk = some b → w.heap.size ≤ b := fun j b e blk h1 h2 h3 h4 => by
    rcases hr.src j b e blk h1 h2 h3 h4 with h | h
    · exact h
    · exact absurd h (hno b)
  refine ⟨⟨⟨hr.os.trans hs'.os, hr.tape.trans hs'.tape, hr.output.trans hs'.output, Nat.le_trans hs'.size hr.size, fun b hb => hr.F0 b (hs'.F0 b hb), ?_, fun b h1 h2 => (keep b (Nat.lt_of_lt_of_le h1 hs'.size)).trans (hs'.same b h1 h2), hr.lt, ⟨?_, ?_, ?_, ?_⟩, ?_, ?_, fun b n h => hr.sz b n (hs'.sz b n h)⟩, hs.defers, ?_⟩, ?_, keep⟩
  · intro b hb
    rcases hF b hb with h | h
    · exact hs'.only b h
    · exact .inr (.inl (Nat.le_trans hs'.size h))
  · simp [heapSh_eq, hlen, hr.hr.len]
  · intro j e b h1 h2
    rcases hget j e b h1 h2 with ⟨g1, g2⟩ | ⟨g0, g1, b0, g2, rfl⟩
    · cases hl : b.live with
      | false => cases b <;> simp_all [Blk.live]; trivial
      | true => exact (hs'.hr.blk j e b g1 g2).evo evo (fun _ _ => trivial) fun c hc => keep c (hs'.hr.free j c e b g1 hc g2 hl).1
    · have h3 := hr.hr.blk _ e b0 g1 g2
      have := BR.to (f := V.sh s.heap.length) (E' := E ++ E') (F' := F') (w' := w') h3 (fun _ _ h => h) (fun x v _ hx => by rw [← hlen]; exact sh_VR hx) (fun _ _ => rfl)
      rwa [← Blk.sh_map1] at this
  · intro j b e blk h1 hb h2 hl
    rcases hget j e blk h1 h2 with ⟨g1, g2⟩ | ⟨g0, g1, b0, g2, rfl⟩
    · obtain ⟨q1, q2⟩ := hs'.hr.free j b e blk g1 hb g2 hl
      refine ⟨Nat.lt_of_lt_of_le q1 hr.size, fun h => ?_⟩
      rcases hF b h with h | h
      · exact q2 h
      · omega
    · rw [Blk.live_sh] at hl
      exact hr.hr.free _ b e b0 g1 hb g2 hl
  · intro i j b ei ej bi bj h1 h2 h3 h4 h5 h6 h7 h8
    rcases hget i ei bi h1 h5 with ⟨g1, g2⟩ | ⟨g0, g1, b0, g2, rfl⟩ <;> rcases hget j ej bj h2 h6 with ⟨f1, f2⟩ | ⟨f0, f1, b1, f2, rfl⟩
    · exact hs'.hr.inj i j b ei ej bi bj g1 f1 h3 h4 g2 f2 h7 h8
    · rw [Blk.live_sh] at h8
      have q1 := (hs'.hr.free i b ei bi g1 h3 g2 h7).1
      have q2 := hnew _ b ej b1 f1 f2 h8 h4
      omega
    · rw [Blk.live_sh] at h7
      have q1 := (hs'.hr.free j b ej bj f1 h4 f2 h8).1
      have q2 := hnew _ b ei b0 g1 g2 h7 h3
      omega
    · rw [Blk.live_sh] at h7 h8
      have := hr.hr.inj _ _ b ei ej b0 b1 g1 f1 h3 h4 g2 f2 h7 h8
      omega
  · intro j b e blk h1 h2 hl hb
    rcases hget j e blk h1 h2 with ⟨g1, g2⟩ | ⟨g0, g1, b0, g2, rfl⟩
    · exact hs'.src j b e blk g1 g2 hl hb
    · rw [Blk.live_sh] at hl
      exact .inl (Nat.le_trans hs'.size (hnew _ b e b0 g1 g2 hl hb))
  · intro i hi
    obtain ⟨e, q1, q2⟩ := hs'.keep i hi
    exact ⟨e, by rw [List.getElem?_append_left (List.getElem?_eq_some_iff.1 q1).1]; exact q1, q2⟩
  · intro i y hy
    obtain ⟨u, hu, hv⟩ := hs.tm i y hy
    exact ⟨u, hu, hv.evo evo (fun _ _ => trivial)⟩
  · rw [← hlen]; exact sh_VR hx

end Go.Aw
