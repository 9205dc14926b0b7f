/-
  Weaker states: temporaries that are forgotten, own blocks that are forgotten or told anew; loops over them. Over any program; no condition.
-/
import Derived.Test.YtmmnjelmahcbaaaAwP
namespace Go.Aw
set_option linter.unusedSimpArgs false
set_option linter.unusedVariables false
open Go.RowKit

variable {P : Program} {kp : List Nat} {n : Nat} {s : St} {Q : Exit → St → Prop}

theorem sub_sim {B : Base} {s : St} {tm : List (Nat × V)} {a : Act} {w : World} {E : Env} {F : Nat → Prop} (hl : subTm tm s.tm) (hs : Sim B s a w E F) : Sim B ⟨tm, s.heap⟩ a w E F :=
  ⟨⟨hs.rel.os, hs.rel.tape, hs.rel.output, hs.rel.size, hs.rel.F0, hs.rel.only, hs.rel.same, hs.rel.lt, hs.rel.hr, hs.rel.src, hs.rel.keep, hs.rel.sz⟩, hs.defers, fun i x hx => hs.tm i x (subTm_get hl i x hx)⟩

/-- Some temporaries are forgotten. -/
theorem awp_sub {c : Code} (tm : List (Nat × V)) (hl : subTm tm s.tm) (h : AWP P kp n c ⟨tm, s.heap⟩ Q) : AWP P kp n c s Q :=
  fun hok B a w E F h1 h2 h3 => h hok B a w E F h1 h2 (sub_sim hl h3)

mutual
/-- The own blocks, told by other numbers: 'r' holds, for each new number, the old one. -/
def V.ren (r : List Nat) : V → V
  | .agg xs => .agg (V.renL r xs)
  | .tup xs => .tup (V.renL r xs)
  | .ptr id row off => .ptr (r.getD id 0) row off
  | .ref id off len => .ref (r.getD id 0) off len
  | .fn f xs => .fn f (V.renL r xs)
  | .map id => .map (r.getD id 0)
  | .iface t x => .iface t (V.ren r x)
  | .opt g x => .opt g (V.ren r x)
  | x => x
def V.renL (r : List Nat) : List V → List V
  | [] => []
  | x :: l => V.ren r x :: V.renL r l
end
theorem renL_eq (r : List Nat) : ∀ xs : List V, V.renL r xs = xs.map (V.ren r)
  | [] => rfl
  | x :: l => by simp [V.renL, renL_eq r l]
def Blk.ren (r : List Nat) : Blk → Blk
  | .cells xs => .cells (V.renL r xs)
  | .vrs k rs => .vrs k (rs.map fun q => V.renL r q)
  | .mp es => .mp (es.map fun p => (V.ren r p.1, V.ren r p.2))
  | .it x seen n => .it (V.ren r x) seen n
  | b => b
def renTm (r : List Nat) : List (Nat × V) → List (Nat × V)
  | [] => []
  | (i, x) :: l => (i, V.ren r x) :: renTm r l
def renHeap (r : List Nat) : List Blk → List Nat → List Blk → Prop
  | [], [], _ => True
  | b :: l, i :: q, H => H[i]? = some (Blk.ren r b) ∧ renHeap r l q H
  | _, _, _ => False

theorem belL_get {n : Nat} : ∀ {l : List V}, V.belL n l = true → ∀ (j : Nat) (x : V), l[j]? = some x → V.bel n x = true
  | [], _, j, x, h => by simp at h
  | y :: l, hb, 0, x, h => by
    simp only [V.belL, Bool.and_eq_true] at hb
    simp at h; subst h; exact hb.1
  | y :: l, hb, j + 1, x, h => by
    simp only [V.belL, Bool.and_eq_true] at hb
    exact belL_get hb.2 j x (by simpa using h)

theorem ren_VR {E E' : Env} {F : Nat → Prop} {w : World} {r : List Nat} (hE : ∀ (j i : Nat), r[j]? = some i → E'[j]? = E[i]?) {y : V} {v : Value} (h : VR E F w y v) :
    ∀ x : V, y = V.ren r x → V.bel r.length x = true → VR E' F w x v := by
  have get : ∀ (j : Nat) (e : En), j < r.length → E[r.getD j 0]? = some e → E'[j]? = some e := fun j e hj he => by
    rw [hE j (r.getD j 0) (by simp [List.getElem?_eq_getElem hj])]; exact he
  induction h with
  | d x v hd =>
    intro z hz hb
    cases z <;> simp [V.ren] at hz
    subst hz
    exact .d x v hd
  | agg xs cs hs hrr ih =>
    intro z hz hb
    cases z <;> simp [V.ren, renL_eq] at hz
    rename_i ys
    subst hz
    refine .agg _ cs (by simpa using hs) fun j x v hx hv => ih j (V.ren r x) v (by simp [hx]) hv x rfl (belL_get (by simpa [V.bel] using hb) j x hx)
  | tup xs cs hs hrr ih =>
    intro z hz hb
    cases z <;> simp [V.ren, renL_eq] at hz
    rename_i ys
    subst hz
    refine .tup _ cs (by simpa using hs) fun j x v hx hv => ih j (V.ren r x) v (by simp [hx]) hv x rfl (belL_get (by simpa [V.bel] using hb) j x hx)
  | fn f xs cs hs hrr ih =>
    intro z hz hb
    cases z <;> simp [V.ren, renL_eq] at hz
    rename_i g ys
    obtain ⟨rfl, hz⟩ := hz
    subst hz
    refine .fn _ _ cs (by simpa using hs) fun j x v hx hv => ih j (V.ren r x) v (by simp [hx]) hv x rfl (belL_get (by simpa [V.bel] using hb) j x hx)
  | iface t x v hx ih =>
    intro z hz hb
    cases z <;> simp [V.ren] at hz
    obtain ⟨rfl, hz⟩ := hz
    exact .iface _ _ v (ih _ hz (by simpa [V.bel] using hb))
  | opt g x v hx hu ih =>
    intro z hz hb
    cases z <;> simp [V.ren] at hz
    obtain ⟨rfl, hz⟩ := hz
    exact .opt _ _ v (fun hg => ih hg _ hz (by simpa [V.bel] using hb)) hu
  | junk v =>
    intro z hz hb
    cases z <;> simp [V.ren] at hz
    exact .junk v
  | nil a =>
    intro z hz hb
    cases z <;> simp [V.ren] at hz
    exact .nil a
  | map id b k m hE1 =>
    intro z hz hb
    cases z <;> simp [V.ren] at hz
    simp [V.bel] at hb
    rename_i j
    exact .map _ b k m (get j _ hb (by simpa [← hz] using hE1))
  | ptr id row off b k m hE1 hm =>
    intro z hz hb
    cases z <;> simp [V.ren] at hz
    simp [V.bel] at hb
    rename_i j row' off'
    obtain ⟨h1, rfl, rfl⟩ := hz
    exact .ptr _ _ _ b k m (get j _ hb (by simpa [← h1] using hE1)) hm
  | ref id off len b k m a cap n hE1 hm ha hl hbz hcp =>
    intro z hz hb
    cases z <;> simp [V.ren] at hz
    simp [V.bel] at hb
    rename_i j off' len'
    obtain ⟨h1, rfl, rfl⟩ := hz
    exact .ref _ _ _ b k m a cap n (get j _ hb (by simpa [← h1] using hE1)) hm ha hl hbz hcp
  | refv id k m a hE1 =>
    intro z hz hb
    cases z <;> simp [V.ren] at hz
    simp [V.bel] at hb
    rename_i j off' len'
    obtain ⟨h1, rfl, rfl⟩ := hz
    exact .refv _ k m a (get j _ hb (by simpa [← h1] using hE1))

theorem ren_BR {E E' : Env} {F : Nat → Prop} {w : World} {r : List Nat} (hE : ∀ (j i : Nat), r[j]? = some i → E'[j]? = E[i]?) {e : En} {b : Blk} (h : BR E F w e (Blk.ren r b)) (hb : b.bel r.length = true) : BR E' F w e b := by
  have one : ∀ (x : V) (v : Value), b.holds x → VR E F w (V.ren r x) v → VR E' F w x v := fun x v hx hv => ren_VR hE hv x rfl (Blk.bel_of hb hx)
  cases b with
  | gone => trivial
  | data k rows => exact h
  | cells xs =>
    simp only [Blk.ren, renL_eq] at h
    obtain ⟨q1, q2, b, cs, t, q3, q4, q5, q6⟩ := h
    refine ⟨by simpa using q1, q2, b, cs, t, q3, q4, by simpa using q5, fun j' x hx => ?_⟩
    obtain ⟨v, hv, hq⟩ := q6 j' (V.ren r x) (by simp [hx])
    exact ⟨v, hv, one x v (List.mem_of_getElem? hx) hq⟩
  | vrs k rs =>
    simp only [Blk.ren, renL_eq] at h
    obtain ⟨h1, hn, h2, h3⟩ := h
    refine ⟨h1, by simpa using hn, fun i row hi => by simpa using h2 i (row.map (V.ren r)) (by simp [hi]), ?_⟩
    rcases h3 with ⟨h3, h4⟩ | ⟨b, cs, t, he, hw, hs, hr⟩
    · exact .inl ⟨h3, by simpa using h4⟩
    · refine .inr ⟨b, cs, t, he, hw, by simpa using hs, fun i row j x hi hj => ?_⟩
      obtain ⟨v, hv, ho, hq⟩ := hr i (row.map (V.ren r)) j (V.ren r x) (by simp [hi]) (by simp [hj])
      exact ⟨v, hv, ho, one x v ⟨row, List.mem_of_getElem? hi, List.mem_of_getElem? hj⟩ hq⟩
  | mp es =>
    obtain ⟨b, mes, he, hw, hs, hr⟩ := h
    refine ⟨b, mes, he, hw, by simpa using hs, fun i p m hi hm => ?_⟩
    obtain ⟨q1, q2, q3⟩ := hr i (V.ren r p.1, V.ren r p.2) m (by simp [hi]) hm
    exact ⟨one p.1 _ ⟨p, List.mem_of_getElem? hi, .inl rfl⟩ q1, one p.2 _ ⟨p, List.mem_of_getElem? hi, .inr rfl⟩ q2, q3⟩
  | it x seen n =>
    obtain ⟨b, m, he, hw, hm⟩ := h
    exact ⟨b, m, he, hw, one x _ rfl hm⟩

theorem renHeap_len {r : List Nat} : ∀ {l : List Blk} {q : List Nat} {H : List Blk}, renHeap r l q H → l.length = q.length
  | [], [], _, _ => rfl
  | b :: l, i :: q, H, h => by simp [renHeap_len h.2]
  | [], i :: q, H, h => by cases h
  | b :: l, [], H, h => by cases h
theorem renHeap_get {r : List Nat} : ∀ {l : List Blk} {q : List Nat} {H : List Blk}, renHeap r l q H → ∀ (j : Nat) (b : Blk), l[j]? = some b → ∃ i, q[j]? = some i ∧ H[i]? = some (Blk.ren r b)
  | [], [], _, _, j, b, hj => by simp at hj
  | b :: l, i :: q, H, h, 0, c, hj => by simp at hj; subst hj; exact ⟨i, rfl, h.1⟩
  | b :: l, i :: q, H, h, j + 1, c, hj => by simpa using renHeap_get h.2 j c (by simpa using hj)
  | [], i :: q, H, h, _, _, _ => by cases h
  | b :: l, [], H, h, _, _, _ => by cases h
theorem renTm_get {r : List Nat} : ∀ {l : List (Nat × V)} {i : Nat} {x : V}, tget l i = some x → tget (renTm r l) i = some (V.ren r x)
  | (j, y) :: l, i, x, h => by
    simp only [tget, renTm] at h ⊢
    split at h
    · simp at h; subst h; rename_i hij; simp [hij]
    · rename_i hij; simp only [hij, if_false]; exact renTm_get h

/-- The same state, told anew: fewer temporaries, fewer own blocks, other numbers. -/
structure Ren (kp : List Nat) (r : List Nat) (s' s : St) : Prop where
  nd : r.Nodup
  kp : ∀ i, i ∈ kp → r[i]? = some i
  heap : renHeap r s'.heap r s.heap
  tm : subTm (renTm r s'.tm) s.tm
  bt : belTm r.length s'.tm = true
  bh : belHeap r.length s'.heap = true

theorem ren_sim {B : Base} {r : List Nat} {s s' : St} {a : Act} {w : World} {E : Env} {F : Nat → Prop} (hl : Ren B.keep r s' s) (hs : Sim B s a w E F) :
    Sim B s' a w (r.map fun i => E[i]?.getD ⟨none, 0, 0⟩) F := by
  have hr' := hs.rel
  have hlen : s'.heap.length = r.length := renHeap_len hl.heap
  have hH : ∀ (j : Nat) (b : Blk), s'.heap[j]? = some b → ∃ i, r[j]? = some i ∧ s.heap[i]? = some (Blk.ren r b) := renHeap_get hl.heap
  have hE : ∀ (j i : Nat), r[j]? = some i → (r.map fun i => E[i]?.getD ⟨none, 0, 0⟩)[j]? = E[i]? := fun j i hj => by
    have hj' : j < s'.heap.length := by rw [hlen]; exact (List.getElem?_eq_some_iff.1 hj).1
    obtain ⟨i', h1, h2⟩ := hH j _ (List.getElem?_eq_getElem hj')
    rw [hj] at h1
    cases h1
    have : i < E.length := by rw [hr'.hr.len]; exact (List.getElem?_eq_some_iff.1 h2).1
    simp [hj, List.getElem?_eq_getElem this]
  have hE' : ∀ (j : Nat) (e : En), (r.map fun i => E[i]?.getD ⟨none, 0, 0⟩)[j]? = some e → ∃ i, r[j]? = some i ∧ E[i]? = some e := fun j e h => by
    have h' := h
    simp only [List.getElem?_map, Option.map_eq_some_iff] at h'
    obtain ⟨i, hi, _⟩ := h'
    exact ⟨i, hi, by rw [← hE j i hi]; exact h⟩
  have live : ∀ b : Blk, (Blk.ren r b).live = b.live := fun b => by cases b <;> rfl
  have both : ∀ (j : Nat) (e : En) (b : Blk), (r.map fun i => E[i]?.getD ⟨none, 0, 0⟩)[j]? = some e → s'.heap[j]? = some b → ∃ i, r[j]? = some i ∧ E[i]? = some e ∧ s.heap[i]? = some (Blk.ren r b) := fun j e b h1 h2 => by
    obtain ⟨i, g1, g2⟩ := hE' j e h1
    obtain ⟨i', g3, g4⟩ := hH j b h2
    rw [g1] at g3
    cases g3
    exact ⟨i, g1, g2, g4⟩
  refine ⟨⟨hr'.os, hr'.tape, hr'.output, hr'.size, hr'.F0, hr'.only, hr'.same, hr'.lt, ⟨by simp [hlen], ?_, ?_, ?_⟩, ?_, ?_, hr'.sz⟩, hs.defers, ?_⟩
  · intro j e b h1 h2
    obtain ⟨i, g1, g2, g3⟩ := both j e b h1 h2
    have := hr'.hr.blk i e _ g2 g3
    exact ren_BR hE this (belHeap_get hl.bh j _ h2)
  · intro j b e blk h1 h2 h3 h4
    obtain ⟨i, g1, g2, g3⟩ := both j e blk h1 h3
    exact hr'.hr.free i b e _ g2 h2 g3 (by rw [live]; exact h4)
  · intro i j b ei ej bi bj h1 h2 h3 h4 h5 h6 h7 h8
    obtain ⟨i', g1, g2, g3⟩ := both i ei bi h1 h5
    obtain ⟨j', g4, g5, g6⟩ := both j ej bj h2 h6
    have := hr'.hr.inj i' j' b ei ej _ _ g2 g5 h3 h4 g3 g6 (by rw [live]; exact h7) (by rw [live]; exact h8)
    subst this
    exact (List.getElem?_inj (List.getElem?_eq_some_iff.1 g1).1 hl.nd).1 (g1.trans g4.symm)
  · intro j b e blk h1 h2 h3 h4
    obtain ⟨i, g1, g2, g3⟩ := both j e blk h1 h2
    exact hr'.src i b e _ g2 g3 (by rw [live]; exact h3) h4
  · intro i hi
    obtain ⟨e, h1, h2⟩ := hr'.keep i hi
    exact ⟨e, (hE i i (hl.kp i hi)).trans h1, h2⟩
  · intro i x hx
    obtain ⟨v, hv, h⟩ := hs.tm i _ (subTm_get hl.tm i _ (renTm_get hx))
    exact ⟨v, hv, ren_VR hE h x rfl (belTm_get hl.bt i x hx)⟩

theorem awp_ren {c : Code} (r : List Nat) (s' : St) (hl : Ren kp r s' s) (h : AWP P kp n c s' Q) : AWP P kp n c s Q := by
  intro hok B a w E F h1 h2 h3
  subst h1
  exact h hok B a w _ F rfl h2 (ren_sim hl h3)

/-- A loop; at a round's end the state may be told anew. -/
theorem awp_loop_ren {c : Code} (I : Nat → St → Prop) (m : Nat) (r0 : List Nat) (s0 : St) (h0 : Ren kp r0 s0 s) (hI : I m s0)
    (round : ∀ m t, I m t → AWP P kp n c t (Then (fun u => ∃ k r u', k < m ∧ I k u' ∧ Ren kp r u' u) Q)) : AWP P kp n (.loop c) s Q := by
  refine awp_loop (fun m t => ∃ r u', I m u' ∧ Ren kp r u' t) m ⟨r0, s0, hI, h0⟩ ?_
  rintro m t ⟨r, u, hu, hr⟩
  refine awp_ren r u hr (awp_mono (round m u hu) ?_)
  intro e t h
  cases e with
  | normal => obtain ⟨k, r, u', h1, h2, h3⟩ := h; exact ⟨k, h1, r, u', h2, h3⟩
  | _ => exact h

/-- Two codes, one behind the other, with what holds between them. -/
theorem awp_mid {x y : Code} (J : St → Prop) (h1 : AWP P kp n x s (Then (fun t => ∃ r u, J u ∧ Ren kp r u t) Q)) (h2 : ∀ u, J u → AWP P kp n y u Q) : AWP P kp n (.seq x y) s Q := by
  refine awp_seq (awp_mono h1 ?_)
  intro e t h
  cases e with
  | normal => obtain ⟨r, u, h3, h4⟩ := h; exact awp_ren r u h4 (h2 u h3)
  | _ => exact h

/-- A function's end. -/
def Fin (P : Program) (rs : List ResultVar) (R : V → List Blk → Prop) (e : Exit) (t : St) : Prop :=
  (e = .normal ∨ e = .ret) ∧ ∃ p x, retQ P t rs = some (p, x) ∧ p ∧ R x t.heap

/-- Data that is given back: the own blocks are left behind. -/
theorem fin_ret {rs : List ResultVar} {R : V → List Blk → Prop} {p : Prop} {x : V} (h : retQ P s rs = some (p, x)) (hp : p) (hR : R x s.heap) : AWP P kp n .ret s (Fin P rs R) :=
  awp_ret ⟨.inr rfl, p, x, h, hp, hR⟩

end Go.Aw
