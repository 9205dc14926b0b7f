/-
  Texts of the proof, one behind the other. The conditions stand with each of them.
-/
import Derived.RangeFuncKeeps
import Derived.RangeFuncRecord
import Derived.Test.YtlimahhonfckdaaDoorQkDp
namespace Go.Aw
set_option linter.unusedSimpArgs false
set_option linter.unusedVariables false
open Go.RowKit

variable {F : Fence} {n : Nat} {P : Program}

theorem wpIn_rangeV {g : Operand} {ps : Array Tmp} {assign body : Code} {Q : Exit → Act → World → Prop} {a : Act} {w : World}
    (hro : F.round = none) (h1 : F.depth.isSome = true → 1 ≤ n) {gf : Nat} {lb : Array Value} (hg : a.eval g = .func (.func gf) #[] lb) (hFg : F.fn gf) (eg : ∀ args w, (callFunc gf args).run P w = .ok (.enter gf args) w)
    {encs : Nat → Array Value} {N : Nat} (I : Nat → World → Prop) (hps : ∀ k, (encs k).size = ps.size)
    (hiter : ∀ (l : Nat) (J : Nat → World → Prop) (W : World), (∀ k W, J k W → I k W) →
      (∀ k W1, J k W1 → k < N → YieldAt F (n - 1 - 1) P l (encs k) W1 fun e W' => e = .returned (.bool true) ∧ J (k + 1) W') → J 0 W →
      CallsIn F (n - 1) P gf (#[.func (.yield l) #[] #[]] ++ lb) W fun e W' => (∃ v, e = .returned v) ∧ J N W')
    (hIp : ∀ (k : Nat) (W : World) (l : Nat) (o o' : Obj), I k W → w.heap.size ≤ l → W.heap[l]? = some o → o.isCells = false → I k (W.putObj l o'))
    (h0 : ∀ r : Loop, I 0 ((w.alloc (.deferred (some []))).alloc (.loop r))) (a₁ : Nat → Act)
    (hassign : ∀ (l k : Nat) (W : World) (K : Act → World → Prop), K (a₁ k) W →
      assign.wpIn (F.inRound l) (n - 1 - 1) P (Exit.then K (fun _ _ _ => False)) { tmps := (ps.zip (encs k)).foldl (fun t (p, v) => t.setIfInBounds p v) a.tmps, defers := [] } W)
    (hbody : ∀ (l k : Nat) (W : World), I k W → k < N → body.wpIn (F.inRound l) (n - 1 - 1) P (fun e _ W' => e = .normal ∧ KeepsOthers W W' ∧ I (k + 1) W') (a₁ k) W)
    (hdone : ∀ (D : Nat) (W : World), w.heap.size ≤ D → I N W → W.heap[D]? = some (.deferred (some [])) → Q .normal { a with defers := { target := .collected D, args := #[] } :: a.defers } W) :
    (Code.rangeFunc g ps assign body).wpIn F n P Q a w := by
  refine wpIn_rangeFunc fun fn hfn => ?_
  rw [hro]
  let rc : LoopState → Loop := fun st => { state := st, pending := none, fn, tmps := a.tmps, params := ps, assign, body, defers := w.heap.size }
  have hL : ((w.alloc (.deferred (some []))).alloc (.loop (rc .ready))).heap[w.heap.size + 1]? = some (.loop (rc .ready)) := by
    have := World.alloc_heap_new (w.alloc (.deferred (some []))) (.loop (rc .ready))
    rwa [World.size_alloc] at this
  have hD : ((w.alloc (.deferred (some []))).alloc (.loop (rc .ready))).heap[w.heap.size]? = some (.deferred (some [])) :=
    (Below.heap_alloc _ _ _ (by simp)).trans (World.alloc_heap_new w _)
  generalize hW1 : (w.alloc (.deferred (some []))).alloc (.loop (rc .ready)) = W1 at hL hD
  have hI1 : I 0 W1 := hW1 ▸ h0 _
  refine ⟨w.heap.size + 1, [{ target := .collected w.heap.size, args := #[] }], W1, { target := .fn (.func gf) lb, args := #[.func (.yield (w.heap.size + 1)) #[] #[]] }, W1, gf,
    #[.func (.yield (w.heap.size + 1)) #[] #[]] ++ lb, W1, by rw [← hW1]; exact run_enterLoop_outer _ _ _ _ _, by simp only [resolve, hg]; simp [go_sem], ?_, by simp [invoke, go_sem, eg], h1, ?_⟩
  · intro f' hf'
    simp [Target.leads] at hf'
    subst hf'
    exact hFg
  refine (hiter (w.heap.size + 1) (fun k W => I k W ∧ W.heap[w.heap.size + 1]? = some (.loop (rc .ready)) ∧ W.heap[w.heap.size]? = some (.deferred (some []))) _ (fun _ _ h => h.1) ?_ ⟨hI1, hL, hD⟩).mono ?_
  · -- one round
    rintro k W ⟨hi, hl, hd⟩ hk
    have hlt : w.heap.size + 1 < W.heap.size := (Array.getElem?_eq_some_iff.1 hl).1
    refine ⟨fn, _, assign, body, run_yield hl (hps k), roundIn_of_wpIn hfn (hassign _ k W _ ⟨_, run_beginRound hl rfl, ?_⟩)⟩
    have hl2 : (W.putObj (w.heap.size + 1) (.loop (rc .busy))).heap[w.heap.size + 1]? = some (.loop (rc .busy)) := World.putObj_heap_same hlt
    have hd2 : (W.putObj (w.heap.size + 1) (.loop (rc .busy))).heap[w.heap.size]? = some (.deferred (some [])) := (World.putObj_heap_other (by omega)).trans hd
    refine wpIn_mono (hbody _ k _ (hIp k W _ _ _ hi (by omega) hl rfl) hk) ?_
    rintro e a3 W3 ⟨rfl, hk3, hi3⟩
    have hl3 := hk3.same _ _ hl2 rfl
    have hd3 := hk3.same _ _ hd2 rfl
    refine ⟨_, _, run_endRound none hl3, rfl, hIp _ _ _ _ _ hi3 (by omega) hl3 rfl, ?_, (World.putObj_heap_other (by omega)).trans hd3⟩
    exact World.putObj_heap_same (Array.getElem?_eq_some_iff.1 hl3).1
  · -- behind the function
    rintro e W2 ⟨⟨v, rfl⟩, hi, hl, hd⟩
    exact ⟨none, _, run_endLoop hl (by simp [rc]), hdone _ _ (Nat.le_refl _) (hIp _ _ _ _ _ hi (by omega) hl rfl) ((World.putObj_heap_other (by omega)).trans hd)⟩

end Go.Aw

namespace Go.Aw
set_option linter.unusedSimpArgs false
set_option linter.unusedVariables false
open Go.RowKit

theorem fz_bel (s : St) : ∀ (k : Nat) (x : V), V.bel 0 x = true → St.fz k s x = s
  | 0, _, _ => rfl
  | k + 1, x, h => by
    have hl : ∀ xs : List V, V.belL 0 xs = true → xs.foldl (St.fz k) s = s := fun xs => by
      induction xs with
      | nil => intro _; rfl
      | cons y r ih =>
        intro h
        simp only [V.belL, Bool.and_eq_true] at h
        rw [List.foldl_cons, fz_bel s k y h.1]
        exact ih h.2
    cases x with
    | ref id off len => simp [V.bel] at h
    | ptr id row off => simp [V.bel] at h
    | fn f xs => exact hl xs (by simpa [V.bel] using h)
    | agg xs => exact hl xs (by simpa [V.bel] using h)
    | iface t y => exact fz_bel s k y (by simpa [V.bel] using h)
    | opt g y => exact fz_bel s k y (by simpa [V.bel] using h)
    | _ => rfl
theorem settle_bel (s : St) : ∀ l : List Operand, (∀ y, y ∈ l → V.bel 0 (s.ev y) = true) → s.settle l = s
  | [], _ => rfl
  | x :: r, h => by
    rw [St.settle, fz_bel s 3 _ (h x (by simp))]
    exact settle_bel s r fun y hy => h y (by simp [hy])
theorem sh_bel (n : Nat) : ∀ x : V, V.bel 0 x = true → V.sh n x = x := by
  intro x
  apply V.rec (motive_1 := fun x => V.bel 0 x = true → V.sh n x = x) (motive_2 := fun xs => V.belL 0 xs = true → V.shL n xs = xs)
  · intro x _; rfl
  · intro xs ih h; simp only [V.sh]; rw [ih (by simpa [V.bel] using h)]
  · intro xs ih h; simp only [V.sh]; rw [ih (by simpa [V.bel] using h)]
  · intro id row off h; simp [V.bel] at h
  · intro id off len h; simp [V.bel] at h
  · intro _; rfl
  · intro f xs ih h; simp only [V.sh]; rw [ih (by simpa [V.bel] using h)]
  · intro id h; simp [V.bel] at h
  · intro t x ih h; simp only [V.sh]; rw [ih (by simpa [V.bel] using h)]
  · intro g x ih h; simp only [V.sh]; rw [ih (by simpa [V.bel] using h)]
  · intro _; rfl
  · intro _; rfl
  · intro x r ih1 ih2 h
    simp only [V.belL, Bool.and_eq_true] at h
    simp only [V.shL]
    rw [ih1 h.1, ih2 h.2]
theorem ren_fix {r : List Nat} {n : Nat} (hr : ∀ i, i < n → r.getD i 0 = i) : ∀ x : V, V.bel n x = true → V.ren r x = x := by
  intro x
  apply V.rec (motive_1 := fun x => V.bel n x = true → V.ren r x = x) (motive_2 := fun xs => V.belL n xs = true → V.renL r xs = xs)
  · intro x _; rfl
  · intro xs ih h; simp only [V.ren]; rw [ih (by simpa [V.bel] using h)]
  · intro xs ih h; simp only [V.ren]; rw [ih (by simpa [V.bel] using h)]
  · intro id row off h; simp only [V.ren]; rw [hr id (by simpa [V.bel] using h)]
  · intro id off len h; simp only [V.ren]; rw [hr id (by simpa [V.bel] using h)]
  · intro _; rfl
  · intro f xs ih h; simp only [V.ren]; rw [ih (by simpa [V.bel] using h)]
  · intro id h; simp only [V.ren]; rw [hr id (by simpa [V.bel] using h)]
  · intro t x ih h; simp only [V.ren]; rw [ih (by simpa [V.bel] using h)]
  · intro g x ih h; simp only [V.ren]; rw [ih (by simpa [V.bel] using h)]
  · intro _; rfl
  · intro _; rfl
  · intro x r ih1 ih2 h
    simp only [V.belL, Bool.and_eq_true] at h
    simp only [V.renL]
    rw [ih1 h.1, ih2 h.2]
theorem bel_up {n m : Nat} (hnm : n ≤ m) : ∀ x : V, V.bel n x = true → V.bel m x = true := by
  intro x
  apply V.rec (motive_1 := fun x => V.bel n x = true → V.bel m x = true) (motive_2 := fun xs => V.belL n xs = true → V.belL m xs = true)
  · intro x _; rfl
  · intro xs ih h; simpa [V.bel] using ih (by simpa [V.bel] using h)
  · intro xs ih h; simpa [V.bel] using ih (by simpa [V.bel] using h)
  · intro id row off h; simp [V.bel] at h ⊢; omega
  · intro id off len h; simp [V.bel] at h ⊢; omega
  · intro _; rfl
  · intro f xs ih h; simpa [V.bel] using ih (by simpa [V.bel] using h)
  · intro id h; simp [V.bel] at h ⊢; omega
  · intro t x ih h; simpa [V.bel] using ih (by simpa [V.bel] using h)
  · intro g x ih h; simpa [V.bel] using ih (by simpa [V.bel] using h)
  · intro _; rfl
  · intro _; rfl
  · intro x r ih1 ih2 h
    simp only [V.belL, Bool.and_eq_true] at h ⊢
    exact ⟨ih1 h.1, ih2 h.2⟩
theorem belL_up {n m : Nat} (hnm : n ≤ m) : ∀ xs : List V, V.belL n xs = true → V.belL m xs = true
  | [], _ => rfl
  | x :: r, h => by
    simp only [V.belL, Bool.and_eq_true] at h ⊢
    exact ⟨bel_up hnm x h.1, belL_up hnm r h.2⟩
theorem Blk.bel_up {n m : Nat} (hnm : n ≤ m) (b : Blk) (h : b.bel n = true) : b.bel m = true := by
  cases b with
  | cells xs => exact belL_up hnm xs h
  | vrs k rs =>
    simp only [Blk.bel, List.all_eq_true] at h ⊢
    exact fun r hr => belL_up hnm r (h r hr)
  | mp es =>
    simp only [Blk.bel, List.all_eq_true, Bool.and_eq_true] at h ⊢
    exact fun p hp => ⟨Aw.bel_up hnm _ (h p hp).1, Aw.bel_up hnm _ (h p hp).2⟩
  | it x seen k => exact Aw.bel_up hnm x h
  | _ => rfl
theorem renL_fix {r : List Nat} {n : Nat} (hr : ∀ i, i < n → r.getD i 0 = i) (xs : List V) (h : V.belL n xs = true) : V.renL r xs = xs := by
  rw [renL_eq]
  conv => rhs; rw [← List.map_id xs]
  exact List.map_congr_left fun x hx => ren_fix hr x (belL_mem h hx)
theorem Blk.ren_fix {r : List Nat} {n : Nat} (hr : ∀ i, i < n → r.getD i 0 = i) (b : Blk) (h : b.bel n = true) : b.ren r = b := by
  cases b with
  | cells xs => simp only [Blk.ren]; rw [renL_fix hr xs h]
  | vrs k rs =>
    simp only [Blk.bel, List.all_eq_true] at h
    simp only [Blk.ren]
    congr 1
    conv => rhs; rw [← List.map_id rs]
    exact List.map_congr_left fun q hq => renL_fix hr q (h q hq)
  | mp es =>
    simp only [Blk.bel, List.all_eq_true, Bool.and_eq_true] at h
    simp only [Blk.ren]
    congr 1
    conv => rhs; rw [← List.map_id es]
    exact List.map_congr_left fun p hp => by rw [Aw.ren_fix hr _ (h p hp).1, Aw.ren_fix hr _ (h p hp).2]; rfl
  | it x seen k => simp only [Blk.ren]; rw [Aw.ren_fix hr x h]
  | _ => rfl
theorem leafConst_bel (v : Value) : V.bel 0 (leafConst v) = true := by
  unfold leafConst
  split <;> rfl
theorem kzero_bel {P : Program} {t : TypeId} {zs : List V} (h : kzero P t = some zs) : V.belL 0 zs = true := by
  obtain ⟨i, z, _, _, rfl⟩ := kzero_spec h
  generalize z.cells.toList = l
  induction l with
  | nil => rfl
  | cons x r ih => simp only [List.map_cons, V.belL, leafConst_bel, ih, Bool.and_self]
theorem dOf_bel {x : V} {d : D} (h : dOf x = some d) : V.bel 0 x = true := by
  cases x <;> simp [dOf] at h <;> rfl
theorem dOfs_bel : ∀ {xs : List V} {ds : List D}, dOfs xs = some ds → V.belL 0 xs = true
  | [], _, _ => rfl
  | x :: r, ds, h => by
    simp only [dOfs] at h
    split at h
    · rename_i h1 h2
      simp only [V.belL, dOf_bel h1, dOfs_bel h2, Bool.and_self]
    · cases h
theorem dV_bel {x : V} {d : D} (h : dV x = some d) : V.bel 0 x = true := by
  unfold dV at h
  split at h
  · rfl
  · rfl
  · simp only [Option.map_eq_some_iff] at h
    obtain ⟨ds, h, _⟩ := h
    simpa [V.bel] using dOfs_bel h
  · simp only [Option.map_eq_some_iff] at h
    obtain ⟨ds, h, _⟩ := h
    simpa [V.bel] using dOfs_bel h
  · rfl
  · simp only [Option.map_eq_some_iff] at h
    obtain ⟨ds, h, _⟩ := h
    simpa [V.bel] using dOfs_bel h
  · cases h
theorem dVs_bel : ∀ {xs : List V} {ds : List D}, dVs xs = some ds → ∀ x, x ∈ xs → V.bel 0 x = true
  | [], _, _, x, hx => by cases hx
  | y :: r, ds, h, x, hx => by
    simp only [dVs] at h
    split at h
    · rename_i h1 h2
      rcases List.mem_cons.1 hx with rfl | hx
      · exact dV_bel h1
      · exact dVs_bel h2 x hx
    · cases h
theorem strip_bel {n : Nat} {x : V} (h : V.bel n x.strip.2 = true) : V.bel n x = true := by
  cases x <;> first | exact h | (simpa [V.strip, V.bel] using h)
theorem stripAll_mem {s : St} : ∀ {l : List Operand} {y : Operand}, y ∈ l → (s.ev y).strip.2 ∈ (stripAll s l).2
  | x :: r, y, h => by
    rcases List.mem_cons.1 h with rfl | h
    · simp [stripAll]
    · simp only [stripAll]; exact List.mem_cons_of_mem _ (stripAll_mem h)
theorem callOps_bel {s : St} {c : Call} {p : Prop} {f : FuncId} {args : List V} {ds : List D} (hT : callT s c = some (p, f, args)) (hd : dVs args = some ds) : ∀ y, y ∈ callOps c → V.bel 0 (s.ev y) = true := by
  intro y hy
  unfold callT at hT
  split at hT
  · rename_i fo hc
    simp only [callOps, hc, List.mem_append, List.mem_singleton] at hy
    split at hT
    · rename_i g caps he
      simp only [Option.some.injEq, Prod.mk.injEq] at hT
      obtain ⟨_, _, rfl⟩ := hT
      rcases hy with hy | rfl
      · exact strip_bel (dVs_bel hd _ (List.mem_append_left _ (stripAll_mem hy)))
      · exact strip_bel (by rw [he]; rfl)
    · rename_i g caps he
      simp only [Option.some.injEq, Prod.mk.injEq] at hT
      obtain ⟨_, _, rfl⟩ := hT
      rcases hy with hy | rfl
      · exact strip_bel (dVs_bel hd _ (List.mem_append_left _ (stripAll_mem hy)))
      · refine strip_bel ?_
        rw [he]
        have : ∀ l : List V, (∀ x, x ∈ l → V.bel 0 x = true) → V.belL 0 l = true := fun l => by
          induction l with
          | nil => intro _; rfl
          | cons x r ih => intro h; simp only [V.belL, h x (by simp), ih fun z hz => h z (by simp [hz]), Bool.and_self]
        simpa [V.bel] using this caps fun x hx => dVs_bel hd x (List.mem_append_right _ hx)
    · cases hT
  · cases hT

theorem stripAll_congrP {s s' : St} : ∀ {l : List Operand}, (∀ y, y ∈ l → s'.ev y = s.ev y) → stripAll s' l = stripAll s l
  | [], _ => rfl
  | x :: r, h => by simp only [stripAll]; rw [h x (by simp), stripAll_congrP fun y hy => h y (by simp [hy])]

def valCall (c : Call) : Bool := match c.callee with | .value _ => true | _ => false

theorem callT_congrP {s s' : St} {c : Call} (h : ∀ y, y ∈ callOps c → s'.ev y = s.ev y) : callT s' c = callT s c := by
  unfold callT
  split
  · rename_i fo hc
    simp only [callOps, hc, List.mem_append, List.mem_singleton] at h
    rw [h fo (.inr rfl), stripAll_congrP fun y hy => h y (.inl hy)]
  · rfl
theorem opR_congrP {P : Program} {s s' : St} {c : Call} (hv : valCall c = true) (h : ∀ y, y ∈ callOps c → s'.ev y = s.ev y) (h0 : opR P s (.call c) = none) : opR P s' (.call c) = none := by
  unfold valCall at hv
  split at hv
  · rename_i fo hc
    simp only [callOps, hc, List.mem_append, List.mem_singleton] at h
    simp only [opR, hc] at h0 ⊢
    cases fo with
    | func g =>
      simp only at h0 ⊢
      rw [stripAll_congrP fun y hy => h y (.inl hy)]
      exact h0
    | _ => simp only [opQ, hc] at h0 ⊢
  · cases hv

theorem call_vc {P : Program} {kp : List Nat} {ops : Array Oper} {o : Oper} {c : Call} {s : St} {p : Prop} {f : FuncId} {args : List V} {ds : List D} {x0 : V} {K : St → Prop} (hg : o.guard = none) (hc : o.op = .call c) (hv : valCall c = true)
    (hR : opR P s (.call c) = none) (hT : callT s c = some (p, f, args)) (hd : dVs args = some ds) (hp : p) (hb : V.bel 0 x0 = true) (h : PC P f ds fun x H => x = x0 ∧ H = []) (hK : K (s.put o.dst x0)) : OpVC P kp ops o s K := by
  have hE : opE P kp s (.call c) = none := by
    unfold valCall at hv
    split at hv
    · rename_i fo hcc; simp only [opE, hcc]
    · cases hv
  have hs : s.settle (callOps c) = s := settle_bel s _ (callOps_bel hT hd)
  unfold OpVC St.guardOf
  simp only [hg, hc, hR, hE, hs, hT, hd]
  refine ⟨fun _ => hp, CallD.det h ?_⟩
  rw [sh_bel _ _ hb, show heapSh s.heap.length [] = [] from rfl, List.append_nil]
  exact hK
theorem alloc_vc {P : Program} {kp : List Nat} {ops : Array Oper} {o : Oper} {t : TypeId} {s : St} {zs : List V} {K : St → Prop} (hg : o.guard = none) (hc : o.op = .alloc t) (hz : kzero P t = some zs)
    (hK : K ({ s with heap := s.heap ++ [Blk.cells zs] }.put o.dst (.ptr s.heap.length 0 0))) : OpVC P kp ops o s K := by
  unfold OpVC St.guardOf
  simp only [hg, hc, opR, opQ, opE, hz, Option.map_some]
  exact ⟨trivial, hK⟩

structure It where
  i : Nat
  d : Nat
  v : V
  b : Option Blk

def ItOk (P : Program) (ops : Array Oper) (s0 : St) (it : It) : Prop := ∃ o, ops[it.i]? = some o ∧ o.guard = none ∧ o.dst = some it.d ∧
  match it.b with
  | none => V.bel 0 it.v = true ∧ ∃ c p f args ds, o.op = .call c ∧ valCall c = true ∧ opR P s0 (.call c) = none ∧ callT s0 c = some (p, f, args) ∧ p ∧ dVs args = some ds ∧ PC P f ds fun x H => x = it.v ∧ H = []
  | some b => ∃ t zs, o.op = .alloc t ∧ kzero P t = some zs ∧ b = .cells zs
def applyI (s : St) : List It → St
  | [] => s
  | it :: r => applyI ⟨tput s.tm it.d it.v, s.heap ++ it.b.toList⟩ r
def SlotsI : Nat → List It → Prop
  | _, [] => True
  | n, it :: r => (it.b.isSome = true → it.v = .ptr n 0 0) ∧ SlotsI (n + it.b.toList.length) r
def hpI (pd : Nat → Bool) : List It → List Blk
  | [] => []
  | it :: r => (it.b.toList.map fun b => if pd it.i then .gone else b) ++ hpI pd r

theorem hpI_len (pd pd' : Nat → Bool) : ∀ its, (hpI pd its).length = (hpI pd' its).length
  | [] => rfl
  | it :: r => by simp [hpI, hpI_len pd pd' r]
theorem applyI_heap : ∀ (its : List It) (s : St), (applyI s its).heap = s.heap ++ hpI (fun _ => false) its
  | [], s => by simp [applyI, hpI]
  | it :: r, s => by rw [applyI, applyI_heap r]; simp [hpI]
theorem applyI_other : ∀ (its : List It) (s : St) (j : Nat), (∀ it, it ∈ its → it.d ≠ j) → tget (applyI s its).tm j = tget s.tm j
  | [], s, j, _ => rfl
  | it :: r, s, j, h => by
    rw [applyI, applyI_other r _ j fun x hx => h x (by simp [hx])]
    simp only [tget_tput]
    rw [if_neg fun e => h it (by simp) e.symm]
theorem applyI_get : ∀ (its : List It) (s : St), (its.map It.d).Nodup → ∀ it, it ∈ its → tget (applyI s its).tm it.d = some it.v
  | x :: r, s, hn, it, h => by
    simp only [List.map_cons, List.nodup_cons] at hn
    rw [applyI]
    rcases List.mem_cons.1 h with rfl | h
    · rw [applyI_other r _ _ fun y hy e => hn.1 (by rw [← e]; exact List.mem_map_of_mem hy)]
      simp [tget_tput]
    · exact applyI_get r _ hn.2 it h
theorem slot_at (pd : Nat → Bool) : ∀ (its : List It) (H : List Blk), SlotsI H.length its → ∀ it b, it ∈ its → it.b = some b → ∃ g, it.v = .ptr g 0 0 ∧ H.length ≤ g ∧ g < H.length + (hpI pd its).length
  | x :: r, H, hs, it, b, h, hb => by
    simp only [SlotsI] at hs
    rcases List.mem_cons.1 h with rfl | h
    · exact ⟨H.length, hs.1 (by simp [hb]), Nat.le_refl _, by simp [hpI, hb]⟩
    · obtain ⟨g, h1, h2, h3⟩ := slot_at pd r (H ++ x.b.toList) (by simpa using hs.2) it b h hb
      refine ⟨g, h1, by simp at h2; omega, ?_⟩
      simp [hpI] at h3 ⊢; omega
theorem slot_set (i : Nat) (pd : Nat → Bool) : ∀ (its : List It) (H : List Blk), (its.map It.i).Nodup → SlotsI H.length its → ∀ it b g, it ∈ its → it.b = some b → it.i = i → it.v = .ptr g 0 0 →
    H ++ hpI (fun k => pd k && !(k == i)) its = (H ++ hpI pd its).set g b
  | x :: r, H, hn, hs, it, b, g, h, hb, hi, hv => by
    simp only [List.map_cons, List.nodup_cons] at hn
    simp only [SlotsI] at hs
    have rest : (∀ y, y ∈ r → y.i ≠ i) → hpI (fun k => pd k && !(k == i)) r = hpI pd r := by
      intro hr
      clear hn hs h
      induction r with
      | nil => rfl
      | cons y q ih =>
        have h1 := hr y (by simp)
        simp only [hpI]
        rw [ih fun z hz => hr z (by simp [hz])]
        simp [h1]
    rcases List.mem_cons.1 h with rfl | h
    · have hg := hs.1 (by simp [hb])
      rw [hv] at hg
      simp only [V.ptr.injEq, and_true] at hg
      subst hg
      simp only [hpI]
      rw [rest fun y hy e => hn.1 (by rw [hi, ← e]; exact List.mem_map_of_mem hy)]
      simp [hb, hi]
    · have hx : x.i ≠ i := fun e => hn.1 (by rw [e, ← hi]; exact List.mem_map_of_mem h)
      have := slot_set i pd r (H ++ (x.b.toList.map fun b => if pd x.i then .gone else b)) hn.2 (by simpa using hs.2) it b g h hb hi hv
      simp only [List.append_assoc] at this
      simp only [hpI]
      rw [← this]
      simp [hx]
theorem slot_inj : ∀ (its : List It) (n : Nat), SlotsI n its → (its.map It.i).Nodup → ∀ it it' g, it ∈ its → it' ∈ its → it.b.isSome = true → it'.b.isSome = true → it.v = .ptr g 0 0 → it'.v = .ptr g 0 0 → it = it' := by
  have low : ∀ (its : List It) (n : Nat), SlotsI n its → ∀ it g, it ∈ its → it.b.isSome = true → it.v = .ptr g 0 0 → n ≤ g := by
    intro its
    induction its with
    | nil => intro n _ it g h; cases h
    | cons x r ih =>
      intro n hs it g h hb hv
      simp only [SlotsI] at hs
      rcases List.mem_cons.1 h with rfl | h
      · have := hs.1 hb
        rw [hv] at this
        simp only [V.ptr.injEq, and_true] at this
        omega
      · have := ih _ hs.2 it g h hb hv
        omega
  intro its
  induction its with
  | nil => intro n _ _ it it' g h; cases h
  | cons x r ih =>
    intro n hs hn it it' g h h' hb hb' hv hv'
    simp only [SlotsI] at hs
    simp only [List.map_cons, List.nodup_cons] at hn
    rcases List.mem_cons.1 h with h0 | h1 <;> rcases List.mem_cons.1 h' with h0' | h1'
    · exact h0.trans h0'.symm
    · exfalso
      subst h0
      have e1 := hs.1 hb
      rw [hv] at e1
      simp only [V.ptr.injEq, and_true] at e1
      have := low r _ hs.2 it' g h1' hb' hv'
      cases hbb : it.b with
      | none => rw [hbb] at hb; cases hb
      | some b => rw [hbb] at this; simp at this; omega
    · exfalso
      subst h0'
      have e1 := hs.1 hb'
      rw [hv'] at e1
      simp only [V.ptr.injEq, and_true] at e1
      have := low r _ hs.2 it g h1 hb hv
      cases hbb : it'.b with
      | none => rw [hbb] at hb'; cases hb'
      | some b => rw [hbb] at this; simp at this; omega
    · exact ih _ hs.2 hn.2 it it' g h1 h1' hb hb' hv hv'

theorem tget_filter (q : Nat → Bool) : ∀ (l : List (Nat × V)) (j : Nat), tget (l.filter fun p => q p.1) j = if q j then tget l j else none
  | [], j => by simp [tget]
  | (k, x) :: r, j => by
    have ih := tget_filter q r j
    by_cases hk : q k = true
    · rw [List.filter_cons_of_pos (by simpa using hk)]
      simp only [tget]
      by_cases hj : j = k
      · subst hj; simp [hk]
      · simp only [hj, if_false]; exact ih
    · rw [List.filter_cons_of_neg (by simpa using hk), ih]
      by_cases hj : j = k
      · subst hj; simp [hk]
      · simp only [tget, hj, if_false]

def stgI (pd : Nat → Bool) (its : List It) (s0 : St) : St := ⟨(applyI s0 its).tm.filter fun p => !(its.any fun it => pd it.i && it.d == p.1), s0.heap ++ hpI pd its⟩
theorem stgI_get (pd : Nat → Bool) (its : List It) (s0 : St) (j : Nat) : tget (stgI pd its s0).tm j = if (its.any fun it => pd it.i && it.d == j) then none else tget (applyI s0 its).tm j := by
  unfold stgI
  have := tget_filter (fun j => !(its.any fun it => pd it.i && it.d == j)) (applyI s0 its).tm j
  rw [this]
  cases its.any fun it => pd it.i && it.d == j <;> rfl

end Go.Aw

namespace Go.Aw
set_option linter.unusedSimpArgs false
set_option linter.unusedVariables false
open Go.RowKit

theorem hpI_congr {pd pd' : Nat → Bool} : ∀ {its : List It}, (∀ x, x ∈ its → x.b.isSome = true → pd x.i = pd' x.i) → hpI pd its = hpI pd' its
  | [], _ => rfl
  | x :: r, h => by
    simp only [hpI]
    rw [hpI_congr fun y hy => h y (by simp [hy])]
    cases hb : x.b with
    | none => rfl
    | some b => simp [h x (by simp) (by simp [hb])]
theorem hpI_gone : ∀ (its : List It) (b : Blk), b ∈ hpI (fun _ => true) its → b = .gone
  | [], b, h => by cases h
  | x :: r, b, h => by
    simp only [hpI, List.mem_append] at h
    rcases h with h | h
    · cases hb : x.b with
      | none => simp [hb] at h
      | some c => simpa [hb] using h
    · exact hpI_gone r b h
theorem hpI_bel {P : Program} {ops : Array Oper} {s0 : St} {pd : Nat → Bool} : ∀ {its : List It}, (∀ it, it ∈ its → ItOk P ops s0 it) → ∀ b, b ∈ hpI pd its → b.bel 0 = true
  | [], _, b, h => by cases h
  | x :: r, hok, b, h => by
    simp only [hpI, List.mem_append] at h
    rcases h with h | h
    · obtain ⟨o, _, _, _, hm⟩ := hok x (by simp)
      cases hb : x.b with
      | none => simp [hb] at h
      | some c =>
        rw [hb] at hm
        obtain ⟨t, zs, _, hz, rfl⟩ := hm
        simp only [hb, Option.toList_some, List.map_cons, List.map_nil, List.mem_singleton] at h
        subst h
        split
        · rfl
        · exact kzero_bel hz
    · exact hpI_bel (fun it hit => hok it (by simp [hit])) b h

theorem stg_start {B : Base} {s0 : St} {a : Act} {w : World} {E : Env} {F : Nat → Prop} {its : List It} (hs : Sim B s0 a w E F) :
    Sim B (stgI (fun _ => true) its s0) a w (E ++ List.replicate (hpI (fun _ => true) its).length ⟨none, 0, 0⟩) F := by
  have hr := hs.rel
  have hg := hpI_gone its
  have hlen := hr.hr.len
  generalize hR : hpI (fun _ => true) its = R at hg
  have he : ∀ id e, E[id]? = some e → (E ++ List.replicate R.length ⟨none, 0, 0⟩)[id]? = some e := fun id e h => by
    rw [List.getElem?_append_left (List.getElem?_eq_some_iff.1 h).1]; exact h
  have evo : Evo E F w (E ++ List.replicate R.length ⟨none, 0, 0⟩) F w (fun _ => True) := ⟨fun _ h => h, fun _ _ => rfl, fun id e _ h => he id e h, fun _ _ h => h⟩
  have old : ∀ (id : Nat) (e : En) (b : Blk), (E ++ List.replicate R.length ⟨none, 0, 0⟩)[id]? = some e → (s0.heap ++ R)[id]? = some b → (E[id]? = some e ∧ s0.heap[id]? = some b) ∨ b = .gone := by
    intro id e b h1 h2
    rcases Nat.lt_or_ge id s0.heap.length with h | h
    · rw [List.getElem?_append_left h] at h2
      rw [List.getElem?_append_left (by omega)] at h1
      exact .inl ⟨h1, h2⟩
    · rw [List.getElem?_append_right h] at h2
      exact .inr (hg b (List.mem_of_getElem? h2))
  have oldl : ∀ (id : Nat) (e : En) (b : Blk), (E ++ List.replicate R.length ⟨none, 0, 0⟩)[id]? = some e → (s0.heap ++ R)[id]? = some b → b.live = true → (E[id]? = some e ∧ s0.heap[id]? = some b) := by
    intro id e b h1 h2 h3
    rcases old id e b h1 h2 with h | rfl
    · exact h
    · cases h3
  have hh : (stgI (fun _ => true) its s0).heap = s0.heap ++ R := by simp only [stgI, hR]
  refine ⟨⟨hr.os, hr.tape, hr.output, hr.size, hr.F0, hr.only, hr.same, hr.lt, ⟨by rw [hh]; simp [hlen], ?_, ?_, ?_⟩, ?_, ?_, hr.sz⟩, hs.defers, ?_⟩
  · intro id e b h1 h2
    rw [hh] at h2
    rcases old id e b h1 h2 with ⟨g1, g2⟩ | rfl
    · exact (hr.hr.blk id e b g1 g2).evo evo (fun _ _ => trivial) fun _ _ => rfl
    · trivial
  · intro id b e blk h1 h2 h3 h4
    rw [hh] at h3
    obtain ⟨g1, g2⟩ := oldl id e blk h1 h3 h4
    exact hr.hr.free id b e blk g1 h2 g2 h4
  · intro i j b ei ej bi bj h1 h2 h3 h4 h5 h6 h7 h8
    rw [hh] at h5 h6
    obtain ⟨g1, g2⟩ := oldl i ei bi h1 h5 h7
    obtain ⟨g3, g4⟩ := oldl j ej bj h2 h6 h8
    exact hr.hr.inj i j b ei ej bi bj g1 g3 h3 h4 g2 g4 h7 h8
  · intro id b e blk h1 h2 h3 h4
    rw [hh] at h2
    obtain ⟨g1, g2⟩ := oldl id e blk h1 h2 h3
    exact hr.src id b e blk g1 g2 h3 h4
  · intro i hi
    obtain ⟨e, h1, h2⟩ := hr.keep i hi
    exact ⟨e, he i e h1, h2⟩
  · intro j x hx
    rw [stgI_get] at hx
    split at hx
    · cases hx
    · rename_i hany
      rw [applyI_other its s0 j fun it hit e => hany (by simp only [List.any_eq_true, Bool.true_and, beq_iff_eq]; exact ⟨it, hit, e⟩)] at hx
      obtain ⟨v, hv, hr⟩ := hs.tm j x hx
      exact ⟨v, hv, hr.evo evo fun _ _ => trivial⟩

theorem Sim.told {B : Base} {s s' : St} {a : Act} {w : World} {E : Env} {F : Nat → Prop} (hs : Sim B s a w E F) (hh : s'.heap = s.heap) (ht : ∀ j x, tget s'.tm j = some x → tget s.tm j = some x) : Sim B s' a w E F := by
  obtain ⟨tm', heap'⟩ := s'
  simp only at hh
  subst hh
  exact ⟨⟨hs.rel.os, hs.rel.tape, hs.rel.output, hs.rel.size, hs.rel.F0, hs.rel.only, hs.rel.same, hs.rel.lt, hs.rel.hr, hs.rel.src, hs.rel.keep, hs.rel.sz⟩, hs.defers, fun i x hx => hs.tm i x (ht i x hx)⟩

theorem stg_end {B : Base} {s0 : St} {a : Act} {w : World} {E : Env} {F : Nat → Prop} {its : List It} {pd : Nat → Bool} (hp : ∀ it, it ∈ its → pd it.i = false) (hs : Sim B (stgI pd its s0) a w E F) : Sim B (applyI s0 its) a w E F := by
  refine hs.told ?_ fun j x hx => ?_
  · rw [applyI_heap]
    simp only [stgI]
    rw [hpI_congr (pd := pd) (pd' := fun _ => false) fun x hx _ => hp x hx]
  · rw [stgI_get, if_neg]
    · exact hx
    · simp only [List.any_eq_true, Bool.and_eq_true, beq_iff_eq, not_exists, not_and]
      intro it hit h
      rw [hp it hit] at h; cases h

theorem item_eq {its : List It} (hn : (its.map It.i).Nodup) : ∀ {x y : It}, x ∈ its → y ∈ its → x.i = y.i → x = y := by
  induction its with
  | nil => intro x y h; cases h
  | cons z r ih =>
    intro x y hx hy e
    simp only [List.map_cons, List.nodup_cons] at hn
    rcases List.mem_cons.1 hx with h | h <;> rcases List.mem_cons.1 hy with h' | h'
    · exact h.trans h'.symm
    · subst h; exact absurd (by rw [e]; exact List.mem_map_of_mem h') hn.1
    · subst h'; exact absurd (by rw [← e]; exact List.mem_map_of_mem h) hn.1
    · exact ih hn.2 h h' e

theorem stg_tm {s0 : St} {its : List It} (hn1 : (its.map It.i).Nodup) (hn2 : (its.map It.d).Nodup) {pd : Nat → Bool} {it : It} (hit : it ∈ its) {j : Nat} {x : V} (h : tget (stgI (fun k => pd k && !(k == it.i)) its s0).tm j = some x) :
    (j = it.d ∧ x = it.v) ∨ (j ≠ it.d ∧ tget (stgI pd its s0).tm j = some x) := by
  rw [stgI_get] at h
  split at h
  · cases h
  rename_i hany
  by_cases hj : j = it.d
  · subst hj
    rw [applyI_get its s0 hn2 it hit] at h
    exact .inl ⟨rfl, (Option.some.inj h).symm⟩
  · refine .inr ⟨hj, ?_⟩
    rw [stgI_get, if_neg]
    · exact h
    · intro hc
      simp only [List.any_eq_true, Bool.and_eq_true, beq_iff_eq] at hc
      obtain ⟨y, hy, h1, h2⟩ := hc
      refine hany (List.any_eq_true.2 ⟨y, hy, ?_⟩)
      have : y.i ≠ it.i := fun e => hj (by rw [← h2, item_eq hn1 hy hit e])
      simp [h1, h2, this]

theorem stg_call {B : Base} {s0 : St} {a : Act} {w : World} {E : Env} {F : Nat → Prop} {its : List It} (hn1 : (its.map It.i).Nodup) (hn2 : (its.map It.d).Nodup) {pd : Nat → Bool} {it : It} (hit : it ∈ its) (hb : it.b = none)
    (hs : Sim B ((stgI pd its s0).put (some it.d) it.v) a w E F) : Sim B (stgI (fun k => pd k && !(k == it.i)) its s0) a w E F := by
  refine hs.told ?_ fun j x hx => ?_
  · simp only [stgI, St.put]
    rw [hpI_congr (pd := fun k => pd k && !(k == it.i)) (pd' := pd)]
    intro x hx hxb
    have : x.i ≠ it.i := fun e => by rw [item_eq hn1 hx hit e, hb] at hxb; cases hxb
    simp [this]
  · simp only [St.put, tget_tput]
    rcases stg_tm hn1 hn2 hit hx with ⟨rfl, rfl⟩ | ⟨h1, h2⟩
    · simp
    · rw [if_neg h1]; exact h2

theorem renHeap_of {r : List Nat} {H : List Blk} : ∀ {l : List Blk} {q : List Nat}, l.length = q.length → (∀ (j : Nat) (b : Blk) (i : Nat), l[j]? = some b → q[j]? = some i → H[i]? = some (Blk.ren r b)) → renHeap r l q H
  | [], [], _, _ => trivial
  | b :: l, i :: q, hl, h => ⟨h 0 b i rfl rfl, renHeap_of (by simpa using hl) fun j c k h1 h2 => h (j + 1) c k (by simpa using h1) (by simpa using h2)⟩
  | [], i :: q, hl, _ => by simp at hl
  | b :: l, [], hl, _ => by simp at hl
theorem belHeap_of {n : Nat} : ∀ {l : List Blk}, (∀ b, b ∈ l → b.bel n = true) → belHeap n l = true
  | [], _ => rfl
  | b :: l, h => by
    simp only [belHeap, Bool.and_eq_true]
    exact ⟨h b List.mem_cons_self, belHeap_of fun c hc => h c (List.mem_cons_of_mem _ hc)⟩

theorem stg_new {P : Program} {ops : Array Oper} {B : Base} {s0 : St} {a : Act} {w : World} {E : Env} {F : Nat → Prop} {its : List It} (hn1 : (its.map It.i).Nodup) (hn2 : (its.map It.d).Nodup) (hok : ∀ it, it ∈ its → ItOk P ops s0 it) (hsl : SlotsI s0.heap.length its)
    (hb1 : belTm s0.heap.length s0.tm = true) (hb2 : belHeap s0.heap.length s0.heap = true) (hk : ∀ i, i ∈ B.keep → i < s0.heap.length) {pd : Nat → Bool} {it : It} (hit : it ∈ its) {b : Blk} (hb : it.b = some b) (hp : pd it.i = true)
    (hs : Sim B ⟨tput (stgI pd its s0).tm it.d (.ptr (stgI pd its s0).heap.length 0 0), (stgI pd its s0).heap ++ [b]⟩ a w E F) : ∃ E', Sim B (stgI (fun k => pd k && !(k == it.i)) its s0) a w E' F := by
  obtain ⟨g, hv, hg1, hg2⟩ := slot_at pd its s0.heap hsl it b hit hb
  have hset := slot_set it.i pd its s0.heap hn1 hsl it b g hit hb rfl hv
  have hH : (stgI pd its s0).heap = s0.heap ++ hpI pd its := rfl
  have huH : (stgI (fun k => pd k && !(k == it.i)) its s0).heap = (stgI pd its s0).heap.set g b := hset
  have hN : s0.heap.length + (hpI pd its).length = (stgI pd its s0).heap.length := by rw [hH]; simp
  rw [hN] at hg2
  have hbb : b.bel 0 = true := by
    obtain ⟨o, _, _, _, hm⟩ := hok it hit
    rw [hb] at hm
    obtain ⟨t, zs, _, hz, rfl⟩ := hm
    exact kzero_bel hz
  have hbel : ∀ c, c ∈ (stgI (fun k => pd k && !(k == it.i)) its s0).heap → c.bel s0.heap.length = true := fun c hc => by
    simp only [stgI, List.mem_append] at hc
    rcases hc with hc | hc
    · obtain ⟨j, hj⟩ := List.getElem?_of_mem hc
      exact belHeap_get hb2 j c hj
    · exact Blk.bel_up (Nat.zero_le _) c (hpI_bel hok c hc)
  have htm : ∀ j x, j ≠ it.d → tget (stgI pd its s0).tm j = some x → V.bel s0.heap.length x = true ∨ ∃ g', x = .ptr g' 0 0 ∧ g' ≠ g ∧ g' < (stgI pd its s0).heap.length := by
    intro j x hj hx
    rw [stgI_get] at hx
    split at hx
    · cases hx
    by_cases hd : ∃ y, y ∈ its ∧ y.d = j
    · obtain ⟨y, hy, rfl⟩ := hd
      rw [applyI_get its s0 hn2 y hy] at hx
      obtain rfl := (Option.some.inj hx).symm
      obtain ⟨o, _, _, _, hm⟩ := hok y hy
      cases hyb : y.b with
      | none =>
        rw [hyb] at hm
        exact .inl (bel_up (Nat.zero_le _) _ hm.1)
      | some c =>
        obtain ⟨g', h1, h2, h3⟩ := slot_at pd its s0.heap hsl y c hy hyb
        refine .inr ⟨g', h1, fun e => hj ?_, by omega⟩
        subst e
        rw [slot_inj its _ hsl hn1 y it g' hy hit (by simp [hyb]) (by simp [hb]) h1 hv]
    · rw [applyI_other its s0 j fun y hy e => hd ⟨y, hy, e⟩] at hx
      exact .inl (belTm_get hb1 j x hx)
  generalize hu : stgI (fun k => pd k && !(k == it.i)) its s0 = u at *
  generalize ht : stgI pd its s0 = t at *
  let r := (List.range t.heap.length).map fun i => if i = g then t.heap.length else i
  have rlen : r.length = t.heap.length := by simp [r]
  have rget : ∀ j, j < t.heap.length → r[j]? = some (if j = g then t.heap.length else j) := fun j hj => by
    simp only [r, List.getElem?_map, List.getElem?_range hj, Option.map_some]
  have rfix : ∀ j, j < t.heap.length → j ≠ g → r.getD j 0 = j := fun j hj hjg => by
    rw [List.getD_eq_getElem?_getD, rget j hj, if_neg hjg]; rfl
  have rg : r.getD g 0 = t.heap.length := by
    rw [List.getD_eq_getElem?_getD, rget g hg2, if_pos rfl]; rfl
  have rlow : ∀ j, j < s0.heap.length → r.getD j 0 = j := fun j hj => rfix j (by omega) (by omega)
  have hren : Ren B.keep r ⟨[], u.heap⟩ ⟨tput t.tm it.d (.ptr t.heap.length 0 0), t.heap ++ [b]⟩ := by
    refine ⟨?_, fun i hi => ?_, renHeap_of (by rw [huH]; simp [rlen]) fun j c i h1 h2 => ?_, trivial, rfl, ?_⟩
    · show List.Pairwise _ _
      rw [List.pairwise_map]
      refine List.Pairwise.imp_of_mem ?_ (List.nodup_range (n := t.heap.length))
      intro x y hx hy hne
      have := List.mem_range.1 hx
      have := List.mem_range.1 hy
      split <;> split <;> omega
    · have := hk i hi
      rw [rget i (by omega), if_neg (by omega)]
    · have hcb := hbel c (List.mem_of_getElem? h1)
      rw [Blk.ren_fix rlow c hcb]
      have hj : j < t.heap.length := by have := (List.getElem?_eq_some_iff.1 h2).1; omega
      rw [rget j hj] at h2
      simp only [huH] at h1
      rw [List.getElem?_set] at h1
      by_cases hjg : j = g
      · subst hjg
        simp only [if_true] at h1 h2
        obtain rfl := Option.some.inj h2
        rw [if_pos hj] at h1
        simpa using h1
      · rw [if_neg hjg] at h2
        rw [if_neg (fun e => hjg e.symm)] at h1
        obtain rfl := Option.some.inj h2
        rw [List.getElem?_append_left hj]
        exact h1
    · exact belHeap_of fun c hc => Blk.bel_up (by omega) c (hbel c hc)
  have h2 := ren_sim hren hs
  have hE : ∀ (j i : Nat), r[j]? = some i → (r.map fun i => E[i]?.getD ⟨none, 0, 0⟩)[j]? = E[i]? := fun j i hj => by
    have hi : i < E.length := by
      rw [hs.rel.hr.len]
      have hj' : j < t.heap.length := by have := (List.getElem?_eq_some_iff.1 hj).1; omega
      rw [rget j hj'] at hj
      have := Option.some.inj hj
      simp only [List.length_append, List.length_cons, List.length_nil]
      split at this <;> omega
    simp [hj, List.getElem?_eq_getElem hi]
  refine ⟨_, ⟨⟨h2.rel.os, h2.rel.tape, h2.rel.output, h2.rel.size, h2.rel.F0, h2.rel.only, h2.rel.same, h2.rel.lt, h2.rel.hr, h2.rel.src, h2.rel.keep, h2.rel.sz⟩, h2.defers, fun j x hx => ?_⟩⟩
  have fin : ∀ y, tget (tput t.tm it.d (.ptr t.heap.length 0 0)) j = some y → y = V.ren r x → V.bel r.length x = true → ∃ v, a.tmps[j]? = some v ∧ VR (r.map fun i => E[i]?.getD ⟨none, 0, 0⟩) F w x v := fun y h1 h2 h3 => by
    obtain ⟨v, hv, hr⟩ := hs.tm j y h1
    exact ⟨v, hv, ren_VR hE hr x h2 h3⟩
  rw [← hu] at hx
  rcases stg_tm hn1 hn2 hit hx with ⟨rfl, rfl⟩ | ⟨h3, h4⟩
  · rw [hv] at fin ⊢
    refine fin _ (by rw [tget_tput, if_pos rfl]) ?_ ?_
    · simp only [V.ren, rg]
    · simp only [V.bel, rlen, decide_eq_true_eq]; exact hg2
  · rw [ht] at h4
    refine fin x (by rw [tget_tput, if_neg h3]; exact h4) ?_ ?_
    · rcases htm j x h3 h4 with h5 | ⟨g', rfl, h6, h7⟩
      · rw [ren_fix rlow x h5]
      · simp only [V.ren, rfix g' h7 h6]
    · rcases htm j x h3 h4 with h5 | ⟨g', rfl, h6, h7⟩
      · exact bel_up (by omega) x h5
      · simp only [V.bel, rlen, decide_eq_true_eq]; exact h7

def setAll : List Nat → Array Bool → Array Bool
  | [], a => a
  | i :: r, a => setAll r (a.setIfInBounds i true)
theorem setAll_get : ∀ (l : List Nat) (a : Array Bool) (k : Nat), (setAll l a)[k]? = if k ∈ l then a[k]?.map (fun _ => true) else a[k]?
  | [], a, k => by simp [setAll]
  | i :: r, a, k => by
    rw [setAll, setAll_get r]
    rw [Array.getElem?_setIfInBounds]
    by_cases hki : i = k
    · subst hki
      simp only [if_true, List.mem_cons, true_or]
      by_cases h : i < a.size
      · simp [h]
      · simp [h]
    · have hki' : ¬ k = i := fun e => hki e.symm
      simp only [hki, if_false, List.mem_cons, hki', false_or]

def goodP (ops : Array Oper) (all : List Nat) (listed : Array Bool) : Bool := !(Region.ready .any ops listed).isEmpty && (Region.ready .any ops listed).all fun j => all.contains j && listed[j]? == some false
def depsOk (ops : Array Oper) (listed : Array Bool) (i : Nat) : Bool := match ops[i]? with
  | some o => o.after.toList.all fun e => !(Region.binds .any e) || listed.getD e.on false
  | none => false
def consP (ops : Array Oper) (all : List Nat) (listed : Array Bool) : Bool := all.all fun i => !(listed.getD i false) || depsOk ops listed i
theorem consP_step {ops : Array Oper} {all : List Nat} {listed : Array Bool} {j : Nat} (h : consP ops all listed = true) (hj : j ∈ Region.ready .any ops listed) : consP ops all (listed.setIfInBounds j true) = true := by
  unfold consP at *
  rw [List.all_eq_true] at *
  have mono : ∀ i, depsOk ops listed i = true → depsOk ops (listed.setIfInBounds j true) i = true := fun i hi => by
    unfold depsOk at *
    split at hi
    · rw [List.all_eq_true] at *
      intro e he
      have := hi e he
      rw [Bool.or_eq_true] at this ⊢
      exact this.imp id fun h => getD_set_true h
    · cases hi
  intro i hi
  by_cases hij : i = j
  · subst hij
    obtain ⟨_, o, ho, hall⟩ := mem_ready.1 hj
    have : depsOk ops listed i = true := by
      unfold depsOk
      rw [ho]
      simp only [List.all_eq_true, Array.mem_toList_iff, Bool.or_eq_true, Bool.not_eq_true']
      intro e he
      cases hb : Region.binds .any e with
      | false => exact .inl rfl
      | true => exact .inr (hall e he hb)
    rw [mono i this, Bool.or_true]
  · have := h i hi
    rw [getD_set_ne false (Ne.symm hij)]
    rw [Bool.or_eq_true] at this ⊢
    exact this.imp id (mono i)
def parChk (ops : Array Oper) (all : List Nat) : List Nat → Array Bool → Bool → Bool
  | [], listed, sk => !sk || !(consP ops all listed) || goodP ops all listed
  | i :: r, listed, sk => parChk ops all r (listed.setIfInBounds i true) sk && parChk ops all r listed true
theorem parChk_spec {ops : Array Oper} {all : List Nat} : ∀ (l : List Nat) (listed : Array Bool) (sk : Bool), parChk ops all l listed sk = true → ∀ pd : Nat → Bool, (sk = true ∨ ∃ i, i ∈ l ∧ pd i = true) → consP ops all (setAll (l.filter fun i => !(pd i)) listed) = true → goodP ops all (setAll (l.filter fun i => !(pd i)) listed) = true
  | [], listed, sk, h, pd, hp, hc => by
    rcases hp with rfl | ⟨i, h1, _⟩
    · simp only [List.filter_nil, setAll] at hc ⊢
      simpa [parChk, hc] using h
    · cases h1
  | i :: r, listed, sk, h, pd, hp, hc => by
    simp only [parChk, Bool.and_eq_true] at h
    cases hpi : pd i with
    | true =>
      rw [List.filter_cons_of_neg (by simp [hpi])] at hc ⊢
      exact parChk_spec r listed true h.2 pd (.inl rfl) hc
    | false =>
      rw [List.filter_cons_of_pos (by simp [hpi])] at hc ⊢
      refine parChk_spec r _ sk h.1 pd (hp.imp id ?_) hc
      rintro ⟨k, h1, h2⟩
      rcases List.mem_cons.1 h1 with rfl | h1
      · rw [hpi] at h2; cases h2
      · exact ⟨k, h1, h2⟩

end Go.Aw

namespace Go.Aw
set_option linter.unusedSimpArgs false
set_option linter.unusedVariables false
open Go.RowKit

variable {P : Program} {ops : Array Oper} {Q : Exit → Act → World → Prop}

def DepOk (ops : Array Oper) (its : List It) : Prop := ∀ it, it ∈ its → ∀ o c, ops[it.i]? = some o → o.op = .call c → ∀ t, Operand.tmp t ∈ callOps c → ∀ y, y ∈ its → y.d ≠ t

theorem stg_ev {s0 : St} {its : List It} {pd : Nat → Bool} {l : List Operand} (h : ∀ t, Operand.tmp t ∈ l → ∀ y, y ∈ its → y.d ≠ t) : ∀ y, y ∈ l → (stgI pd its s0).ev y = s0.ev y := by
  intro y hy
  cases y with
  | tmp t =>
    simp only [St.ev, St.get]
    rw [stgI_get, if_neg, applyI_other its s0 t (h t hy)]
    intro hc
    simp only [List.any_eq_true, Bool.and_eq_true, beq_iff_eq] at hc
    obtain ⟨z, hz, _, h2⟩ := hc
    exact h t hy z hz h2
  | _ => rfl

theorem item_vc {kp : List Nat} {s0 : St} {its : List It} (hdep : DepOk ops its) (hok : ∀ it, it ∈ its → ItOk P ops s0 it) {pd : Nat → Bool} {it : It} (hit : it ∈ its) {K : St → Prop}
    (h1 : it.b = none → K ((stgI pd its s0).put (some it.d) it.v)) (h2 : ∀ b, it.b = some b → K ⟨tput (stgI pd its s0).tm it.d (.ptr (stgI pd its s0).heap.length 0 0), (stgI pd its s0).heap ++ [b]⟩) :
    ∃ o, ops[it.i]? = some o ∧ OpVC P kp ops o (stgI pd its s0) K := by
  obtain ⟨o, ho, hg, hd, hm⟩ := hok it hit
  refine ⟨o, ho, ?_⟩
  cases hb : it.b with
  | none =>
    rw [hb] at hm
    obtain ⟨hbel, c, p, f, args, ds, hc, hv, hR, hT, hp, hds, hpc⟩ := hm
    have hev := stg_ev (s0 := s0) (its := its) (pd := pd) (l := callOps c) fun t ht y hy => hdep it hit o c ho hc t ht y hy
    refine call_vc hg hc hv (opR_congrP hv hev hR) ((callT_congrP hev).trans hT) hds hp hbel hpc ?_
    rw [hd]
    exact h1 hb
  | some b =>
    rw [hb] at hm
    obtain ⟨t, zs, hc, hz, rfl⟩ := hm
    refine alloc_vc hg hc hz ?_
    rw [hd]
    exact h2 _ hb

theorem setAll_step {l : List Nat} {pd : Nat → Bool} {a : Array Bool} {j : Nat} (hj : j ∈ l) : (setAll (l.filter fun i => !(pd i)) a).setIfInBounds j true = setAll (l.filter fun i => !(pd i && !(i == j))) a := by
  apply Array.ext_getElem?
  intro k
  rw [Array.getElem?_setIfInBounds, setAll_get]
  have hsz : (setAll (l.filter fun i => !(pd i)) a).size = a.size := by
    have : ∀ (l : List Nat) (a : Array Bool), (setAll l a).size = a.size := by
      intro l
      induction l with
      | nil => intro a; rfl
      | cons x r ih => intro a; rw [setAll, ih]; simp
    exact this _ _
  by_cases hkj : j = k
  · subst hkj
    rw [if_pos rfl, setAll_get, hsz]
    rw [if_pos (show j ∈ l.filter fun i => !(pd i && !(i == j)) from List.mem_filter.2 ⟨hj, by simp⟩)]
    by_cases h : j < a.size
    · simp [h]
    · simp [h]
  · rw [if_neg hkj, setAll_get]
    have : (k ∈ l.filter fun i => !(pd i && !(i == j))) ↔ (k ∈ l.filter fun i => !(pd i)) := by
      have : (k == j) = false := by simpa using fun e => hkj e.symm
      simp [List.mem_filter, this]
    simp only [this]

theorem par_sound {B : Base} {n m : Nat} (hd : dstsOk n ops = true) {s0 : St} {its : List It} (hn1 : (its.map It.i).Nodup) (hn2 : (its.map It.d).Nodup) (hok : ∀ it, it ∈ its → ItOk P ops s0 it) (hsl : SlotsI s0.heap.length its)
    (hb1 : belTm s0.heap.length s0.tm = true) (hb2 : belHeap s0.heap.length s0.heap = true) (hk : ∀ i, i ∈ B.keep → i < s0.heap.length) (hdep : DepOk ops its) (l0 : Array Bool)
    (hchk : parChk ops (its.map It.i) (its.map It.i) l0 false = true)
    (fin : ∀ a w E F, Sim B (applyI s0 its) a w E F → a.tmps.size = n → ∀ fuel, m ≤ fuel → wpAnyT P ops Q fuel (setAll (its.map It.i) l0) a w) :
    ∀ (k : Nat) (pd : Nat → Bool), (its.filter fun it => pd it.i).length = k → consP ops (its.map It.i) (setAll ((its.map It.i).filter fun i => !(pd i)) l0) = true → ∀ a w E F, a.tmps.size = n → Sim B (stgI pd its s0) a w E F → ∀ fuel, k + m ≤ fuel → wpAnyT P ops Q fuel (setAll ((its.map It.i).filter fun i => !(pd i)) l0) a w
  | 0, pd, hcnt, hcons, a, w, E, F, hn, hs, fuel, hf => by
    have hp : ∀ it, it ∈ its → pd it.i = false := fun it hit => by
      have := List.length_eq_zero_iff.1 hcnt
      rw [List.filter_eq_nil_iff] at this
      simpa using this it hit
    rw [List.filter_eq_self.2 fun i hi => by
      obtain ⟨it, hit, rfl⟩ := List.mem_map.1 hi
      simp [hp it hit]]
    exact fin a w E F (stg_end hp hs) hn fuel (by omega)
  | k + 1, pd, hcnt, hcons, a, w, E, F, hn, hs, 0, hf => by omega
  | k + 1, pd, hcnt, hcons, a, w, E, F, hn, hs, fuel + 1, hf => by
    obtain ⟨z, hz⟩ : ∃ z, z ∈ its.filter fun it => pd it.i := by
      cases hl : its.filter fun it => pd it.i with
      | nil => rw [hl] at hcnt; simp at hcnt
      | cons z r => exact ⟨z, by simp⟩
    obtain ⟨hz1, hz2⟩ := List.mem_filter.1 hz
    have hgood := parChk_spec _ _ _ hchk pd (.inr ⟨z.i, List.mem_map_of_mem hz1, hz2⟩) hcons
    simp only [goodP, Bool.and_eq_true, Bool.not_eq_true', List.isEmpty_eq_false_iff, List.all_eq_true, List.contains_iff_mem, beq_iff_eq] at hgood
    refine ⟨fun h0 => absurd h0 hgood.1, fun j hj => ?_⟩
    obtain ⟨hjl, hjf⟩ := hgood.2 j hj
    obtain ⟨it, hit, rfl⟩ := List.mem_map.1 hjl
    have hpit : pd it.i = true := by
      rw [setAll_get] at hjf
      by_cases h : it.i ∈ (its.map It.i).filter fun i => !(pd i)
      · rw [if_pos h] at hjf
        simp only [Option.map_eq_some_iff] at hjf
        obtain ⟨_, _, h2⟩ := hjf
        cases h2
      · cases hpp : pd it.i with
        | true => rfl
        | false => exact absurd (List.mem_filter.2 ⟨List.mem_map_of_mem hit, by simp [hpp]⟩) h
    have hcnt2 : (its.filter fun x => pd x.i && !(x.i == it.i)).length = k := by
      have key : ∀ l : List It, (l.map It.i).Nodup → it ∈ l → (l.filter fun x => pd x.i).length = (l.filter fun x => pd x.i && !(x.i == it.i)).length + 1 := by
        intro l
        induction l with
        | nil => intro _ h; cases h
        | cons x r ih =>
          intro hnd h
          simp only [List.map_cons, List.nodup_cons] at hnd
          rcases List.mem_cons.1 h with h | h
          · subst h
            rw [List.filter_cons_of_pos (by simpa using hpit), List.filter_cons_of_neg (by simp)]
            simp only [List.length_cons, Nat.add_right_cancel_iff]
            congr 1
            apply List.filter_congr
            intro y hy
            have : y.i ≠ it.i := fun e => hnd.1 (by rw [← e]; exact List.mem_map_of_mem hy)
            simp [this]
          · have hx : x.i ≠ it.i := fun e => hnd.1 (by rw [e]; exact List.mem_map_of_mem h)
            have := ih hnd.2 h
            cases hpx : pd x.i with
            | true =>
              rw [List.filter_cons_of_pos (by simpa using hpx), List.filter_cons_of_pos (by simp [hpx, hx])]
              simp only [List.length_cons, this]
            | false =>
              rw [List.filter_cons_of_neg (by simp [hpx]), List.filter_cons_of_neg (by simp [hpx])]
              exact this
      have := key its hn1 hit
      omega
    have ih := fun a w E F hn hs => par_sound hd hn1 hn2 hok hsl hb1 hb2 hk hdep l0 hchk fin k (fun i => pd i && !(i == it.i)) hcnt2 (by rw [← setAll_step (List.mem_map_of_mem hit)]; exact consP_step hcons hj) a w E F hn hs fuel (by omega)
    rw [← setAll_step (List.mem_map_of_mem hit)] at ih
    obtain ⟨o, ho, hvc⟩ := item_vc (kp := B.keep) (pd := pd) hdep hok hit (K := fun t => ∀ a w E F, Sim B t a w E F → ∃ E', Sim B (stgI (fun k => pd k && !(k == it.i)) its s0) a w E' F)
      (fun hb a w E F h => ⟨E, stg_call hn1 hn2 hit hb h⟩) (fun b hb a w E F h => stg_new hn1 hn2 hok hsl hb1 hb2 hk hit hb hpit h)
    rcases op_sound (Q := Q) hs (fun d hd' => by rw [hn]; exact dstsOk_spec hd ho d hd') hvc with ⟨v, s', hK, hs', hw⟩ | ⟨hnq, hw⟩
    · obtain ⟨E', h'⟩ := hK _ _ _ _ hs'
      have ih' := ih _ w E' F (by rw [size_put]; exact hn) h'
      have hy : YieldsK P ops w o v a := hw
      exact hy.wpOp ho ⟨.inr (Keep.refl w), ih'⟩
    · unfold wpOp
      simp only [ho]
      rcases hw with ⟨hw, hwp⟩ | ⟨hw, s', F', hK, hs'⟩
      · rw [hw, if_pos rfl]
        refine .inl (Oper.wp_mono (fun a' w' ⟨hkt, v, s', E', F', ha, hK, hs'⟩ => ?_) hwp)
        subst ha
        obtain ⟨E2, h'⟩ := hK _ _ _ _ hs'
        exact ⟨by simpa [ho] using hkt, ih _ w' E2 F' (by rw [size_put]; exact hn) h'⟩
      · rw [hw]
        obtain ⟨E2, h'⟩ := hK _ _ _ _ hs'
        exact ⟨.inr (Keep.refl w), ih _ w E2 F' (by rw [size_put]; exact hn) h'⟩

def preOk (ops : Array Oper) : List Nat → Array Bool → Bool
  | [], _ => true
  | i :: r, listed =>
    (match ops[i]? with
     | none => false
     | some o => if kindQ o.op then (Region.ready .any ops listed).contains i && freeT ops listed i else Region.ready .any ops listed == [i]) && preOk ops r (listed.setIfInBounds i true)

theorem pre_sound {B : Base} {n m : Nat} (hd : dstsOk n ops = true) (hsel : Region.noSelect ops = true) (hQ : ∀ c a w, ¬ Q (.panic c) a w) : ∀ (l : List Nat) (listed : Array Bool) (s : St) (a : Act) (w : World) (E : Env) (F : Nat → Prop) (K : St → Prop), a.tmps.size = n → Sim B s a w E F →
    OpsVC P B.keep ops (l.filterMap (ops[·]?)) s K → preOk ops l listed = true →
    (∀ a' w' s' E' F', K s' → Sim B s' a' w' E' F' → a'.tmps.size = n → ∀ fuel, m ≤ fuel → wpAnyT P ops Q fuel (setAll l listed) a' w') → ∀ fuel, l.length + m ≤ fuel → wpAnyT P ops Q fuel listed a w
  | [], listed, s, a, w, E, F, K, hn, hs, h, hok, hq, fuel, hf => hq a w s E F h hs hn fuel (by simpa using hf)
  | i :: l, listed, s, a, w, E, F, K, hn, hs, h, hok, hq, 0, hf => by simp at hf
  | i :: l, listed, s, a, w, E, F, K, hn, hs, h, hok, hq, fuel + 1, hf => by
    simp only [preOk, Bool.and_eq_true] at hok
    obtain ⟨hok, hrest⟩ := hok
    split at hok
    · cases hok
    rename_i o ho
    simp only [List.filterMap_cons, ho, OpsVC] at h
    have ih := fun s a w E F hn hs h => pre_sound hd hsel hQ l (listed.setIfInBounds i true) s a w E F K hn hs h hrest hq fuel (by simp at hf; omega)
    rcases op_sound (Q := Q) hs (fun d hd' => by rw [hn]; exact dstsOk_spec hd ho d hd') h with ⟨v, s', hK, hs', hw⟩ | ⟨hnq, hw⟩
    · have ih' := ih s' _ w E F (by rw [size_put]; exact hn) hs' hK
      have hy : YieldsK P ops w o v a := hw
      split at hok
      · simp only [Bool.and_eq_true] at hok
        exact free_first ho (noSel hsel) (fun c a w hh => absurd hh (hQ c _ w)) fuel listed a w hok.2 (by simpa using hok.1) hy ih'
      · have hr : Region.ready .any ops listed = [i] := by simpa using hok
        refine ⟨(fun h0 => by rw [hr] at h0; cases h0), fun j hj => ?_⟩
        rw [hr] at hj
        simp at hj
        subst hj
        exact hy.wpOp ho ⟨.inr (Keep.refl w), ih'⟩
    · rw [hnq] at hok
      have hr : Region.ready .any ops listed = [i] := by simpa using hok
      refine ⟨(fun h0 => by rw [hr] at h0; cases h0), fun j hj => ?_⟩
      rw [hr] at hj
      simp at hj
      subst hj
      unfold wpOp
      simp only [ho]
      rcases hw with ⟨hw, hwp⟩ | ⟨hw, s', F', hK, hs'⟩
      · rw [hw, if_pos rfl]
        refine .inl (Oper.wp_mono (fun a' w' ⟨hkt, v, s', E', F', ha, hK, hs'⟩ => ?_) hwp)
        subst ha
        exact ⟨by simpa [ho] using hkt, ih s' _ w' E' F' (by rw [size_put]; exact hn) hs' hK⟩
      · rw [hw]
        exact ⟨.inr (Keep.refl w), ih s' _ w E F' (by rw [size_put]; exact hn) hs' hK⟩

def ParK (P : Program) (f : FuncId) (ds : List D) (dst : Nat) (s : St) (k : St → Prop) : Prop := ∃ x0, V.bel 0 x0 = true ∧ (PC P f ds fun x H => x = x0 ∧ H = []) ∧ k ⟨tput s.tm dst x0, s.heap⟩
def P3 (P : Program) (ds : Option (List D)) (p : Prop) (f : FuncId) (dst : Nat) (s : St) (k : St → Prop) : Prop := match ds with
  | some ds => p ∧ ParK P f ds dst s k
  | none => False
def P2 (P : Program) (q : Option (Prop × V)) (t : Option (Prop × FuncId × List V)) (dst : Nat) (s : St) (k : St → Prop) : Prop := match q, t with
  | none, some (p, f, args) => P3 P (dVs args) p f dst s k
  | _, _ => False
def PZ (zs : Option (List V)) (dst : Nat) (s : St) (k : St → Prop) : Prop := match zs with
  | some zs => k ⟨tput s.tm dst (.ptr s.heap.length 0 0), s.heap ++ [.cells zs]⟩
  | none => False
def P1 (P : Program) (s0 : St) (op : Op) (dst : Option Nat) (s : St) (k : St → Prop) : Prop := match op, dst with
  | .call c, some d => P2 P (opR P s0 (.call c)) (callT s0 c) d s k
  | .alloc t, some d => PZ (kzero P t) d s k
  | _, _ => False
def P0 (P : Program) (s0 : St) (o : Option Oper) (s : St) (k : St → Prop) : Prop := match o with
  | some o => P1 P s0 o.op o.dst s k
  | none => False
def parRun (P : Program) (kp : List Nat) (ops : Array Oper) (s0 : St) : List Nat → DT → St → (St → Prop) → Prop
  | [], d, s, K => contRun P kp ops (.dt d) s K
  | i :: r, d, s, K => P0 P s0 ops[i]? s fun t => parRun P kp ops s0 r d t K

def parSyn (ops : Array Oper) (l : List Nat) : Bool :=
  decide l.Nodup && decide (l.filterMap fun i => (ops[i]?).bind (·.dst)).Nodup && l.all fun i => match ops[i]? with
    | some o => o.guard.isNone && (match o.op with | .call c => valCall c && (callOps c).all (fun y => match y with | .tmp t => !((l.filterMap fun i => (ops[i]?).bind (·.dst)).contains t) | _ => true) | _ => true)
    | none => false

theorem par_items {kp : List Nat} {s0 : St} {d : DT} {K : St → Prop} {l0 : List Nat} (hsyn : ∀ i, i ∈ l0 → ∃ o, ops[i]? = some o ∧ o.guard = none ∧ ∀ c, o.op = .call c → valCall c = true) : ∀ (l : List Nat) (s : St), (∀ i, i ∈ l → i ∈ l0) → parRun P kp ops s0 l d s K →
    ∃ its : List It, its.map It.i = l ∧ (∀ it, it ∈ its → ItOk P ops s0 it) ∧ SlotsI s.heap.length its ∧ contRun P kp ops (.dt d) (applyI s its) K
  | [], s, _, h => ⟨[], rfl, fun it hit => (by cases hit), trivial, h⟩
  | i :: r, s, hl, h => by
    obtain ⟨o, ho, hg, hc⟩ := hsyn i (hl i (by simp))
    simp only [parRun, P0, ho] at h
    have ih := fun s (h : parRun P kp ops s0 r d s K) => par_items hsyn r s (fun j hj => hl j (by simp [hj])) h
    unfold P1 at h
    split at h
    · rename_i c dst hop hdst
      unfold P2 at h
      split at h
      · rename_i p f args hR hT
        unfold P3 at h
        split at h
        · rename_i ds hds
          obtain ⟨hp, x0, hb, hpc, h⟩ := h
          obtain ⟨its, h1, h2, h3, h4⟩ := ih _ h
          refine ⟨⟨i, dst, x0, none⟩ :: its, by simp [h1], fun it hit => ?_, ⟨fun hh => (by cases hh), by simpa using h3⟩, by simpa [applyI] using h4⟩
          rcases List.mem_cons.1 hit with rfl | hit
          · exact ⟨o, ho, hg, hdst, hb, c, p, f, args, ds, hop, hc c hop, hR, hT, hp, hds, hpc⟩
          · exact h2 it hit
        · exact h.elim
      · exact h.elim
    · rename_i t dst hop hdst
      unfold PZ at h
      split at h
      · rename_i zs hz
        obtain ⟨its, h1, h2, h3, h4⟩ := ih _ h
        refine ⟨⟨i, dst, .ptr s.heap.length 0 0, some (.cells zs)⟩ :: its, by simp [h1], fun it hit => ?_, ⟨fun _ => rfl, by simpa using h3⟩, by simpa [applyI] using h4⟩
        rcases List.mem_cons.1 hit with rfl | hit
        · exact ⟨o, ho, hg, hdst, t, zs, hop, hz, rfl⟩
        · exact h2 it hit
      · exact h.elim
    · exact h.elim

def ParAt (P : Program) (kp : List Nat) (ops : Array Oper) (l : List Nat) (d : DT) (K : St → Prop) (s : St) : Prop := belTm s.heap.length s.tm = true ∧ belHeap s.heap.length s.heap = true ∧ parRun P kp ops s l d s K

theorem awpF_drawP {kp : List Nat} {n : Nat} {s : St} {Q : Exit → St → Prop} {id : Nat} (pre l : List Nat) (d : DT) (hm : P.follows .mixedOrders = true)
    (hc : (Region.noSelect ops && preOk ops pre (Array.replicate ops.size false) && parSyn ops l && consP ops l (setAll pre (Array.replicate ops.size false)) && parChk ops l l (setAll pre (Array.replicate ops.size false)) false && d.ok ops true (setAll l (setAll pre (Array.replicate ops.size false)))) = true) (hl : Nat.ble (pre.length + (l.length + d.depth)) ops.size = true)
    (h : ∀ K : St → Prop, (∀ t, Q .normal t → K t) → contRun P kp ops (.vc (pre.filterMap (ops[·]?))) s (ParAt P kp ops l d K)) : AWP P kp n (.region id ops true) s Q := by
  intro hok B a w E F h1 h2 h3
  subst h1
  simp only [Bool.and_eq_true] at hc
  obtain ⟨⟨⟨⟨⟨c1, c2⟩, c3⟩, c6⟩, c4⟩, c5⟩ := hc
  have hQ : ∀ c a w, ¬ (fun e a' w' => (∀ ch, e ≠ .panic ch) ∧ e ≠ .outgrown ∧ ∃ s' E' F', Q e s' ∧ Sim B s' a' w' E' F' ∧ a'.tmps.size = n) (.panic c) a w := fun c a w hh => hh.1 c rfl
  refine wp_region_any hm (wpAny_of_T _ _ _ _ (pre_sound (ops := ops) (n := n) (m := l.length + d.depth) hok c1 hQ pre _ s a _ E F _ h2 h3.drew (h _ fun t ht => ht) c2 ?_ _ (Nat.le_of_ble_eq_true hl)))
  rintro a1 w1 s1 E1 F1 ⟨hb1, hb2, hpar⟩ hs1 hn1 fuel hf
  simp only [parSyn, Bool.and_eq_true, decide_eq_true_eq, List.all_eq_true] at c3
  obtain ⟨⟨n1, n2⟩, c3⟩ := c3
  have hsyn : ∀ i, i ∈ l → ∃ o, ops[i]? = some o ∧ o.guard = none ∧ ∀ c, o.op = .call c → valCall c = true := fun i hi => by
    have := c3 i hi
    cases ho : ops[i]? with
    | none => rw [ho] at this; cases this
    | some o =>
      rw [ho] at this
      simp only [Bool.and_eq_true, Option.isNone_iff_eq_none] at this
      refine ⟨o, rfl, this.1, fun c hc => ?_⟩
      have := this.2
      rw [hc] at this
      simp only [Bool.and_eq_true] at this
      exact this.1
  obtain ⟨its, e1, e2, e3, e4⟩ := par_items hsyn l s1 (fun _ h => h) hpar
  have ed : its.map It.d = l.filterMap fun i => (ops[i]?).bind (·.dst) := by
    rw [← e1]
    clear e1 e3 e4 hpar
    induction its with
    | nil => rfl
    | cons x r ih =>
      obtain ⟨o, ho, _, hd, _⟩ := e2 x (by simp)
      rw [List.map_cons, List.map_cons, List.filterMap_cons]
      simp only [ho, Option.bind_some, hd]
      rw [ih fun y hy => e2 y (by simp [hy])]
  have hdep : DepOk ops its := by
    intro it hit o c ho hc t ht y hy
    have := c3 it.i (by rw [← e1]; exact List.mem_map_of_mem hit)
    rw [ho] at this
    simp only [hc, Bool.and_eq_true, List.all_eq_true] at this
    have := this.2.2 _ ht
    simp only [Bool.not_eq_true', List.contains_eq_mem, decide_eq_false_iff_not] at this
    intro e
    refine this ?_
    rw [← ed, ← e]
    exact List.mem_map_of_mem hy
  have hk : ∀ i, i ∈ B.keep → i < s1.heap.length := fun i hi => by
    obtain ⟨e, h1, _⟩ := hs1.rel.keep i hi
    rw [← hs1.rel.hr.len]
    exact (List.getElem?_eq_some_iff.1 h1).1
  have hfl : (its.filter fun it => (fun _ => true) it.i).length = l.length := by
    rw [List.filter_eq_self.2 fun _ _ => rfl, ← e1, List.length_map]
  have := par_sound (P := P) (B := B) (m := d.depth) hok (by rw [e1]; exact n1) (by rw [ed]; exact n2) e2 e3 hb1 hb2 hk hdep _ (by rw [e1]; exact c4) (Q := fun e a' w' => (∀ ch, e ≠ .panic ch) ∧ e ≠ .outgrown ∧ ∃ s' E' F', Q e s' ∧ Sim B s' a' w' E' F' ∧ a'.tmps.size = n)
    (fun a w E F hs hn fuel hf => draw_soundT (ops := ops) (n := n) hok c1 hQ d.depth d (Nat.le_refl _) _ _ a w E F (fun t => Q .normal t) hn hs e4 (by rw [e1]; exact c5) (fun a' w' s' E' F' hK hs hn => ⟨by simp, by simp, s', E', F', hK, hs, hn⟩) fuel hf)
    l.length (fun _ => true) hfl (by rw [show ((its.map It.i).filter fun i => !((fun _ => true) i)) = [] by simp, e1]; exact c6) a1 w1 _ F1 hn1 (stg_start hs1) fuel (by omega)
  rw [show ((its.map It.i).filter fun i => !((fun _ => true) i)) = [] by simp] at this
  exact this

section
variable {kp : List Nat} {s0 s : St} {d : DT} {K : St → Prop} {k : St → Prop}
def ParC (P : Program) (kp : List Nat) (ops : Array Oper) (s0 : St) (r : List Nat) (d : DT) (K : St → Prop) (t : St) : Prop := parRun P kp ops s0 r d t K
theorem parAt_eq {l : List Nat} : ParAt P kp ops l d K s = (belTm s.heap.length s.tm = true ∧ belHeap s.heap.length s.heap = true ∧ parRun P kp ops s l d s K) := rfl
theorem parRun_nil : parRun P kp ops s0 [] d s K = contRun P kp ops (.dt d) s K := rfl
theorem parRun_cons {i : Nat} {r : List Nat} : parRun P kp ops s0 (i :: r) d s K = P0 P s0 ops[i]? s (ParC P kp ops s0 r d K) := rfl
theorem parC_eq {r : List Nat} : ParC P kp ops s0 r d K s = parRun P kp ops s0 r d s K := rfl
theorem P0_some {o : Oper} : P0 P s0 (some o) s k = P1 P s0 o.op o.dst s k := rfl
theorem P1_call {c : Call} {dst : Nat} : P1 P s0 (.call c) (some dst) s k = P2 P (opR P s0 (.call c)) (callT s0 c) dst s k := rfl
theorem P1_alloc {t : TypeId} {dst : Nat} : P1 P s0 (.alloc t) (some dst) s k = PZ (kzero P t) dst s k := rfl
theorem P2_some {p : Prop} {f : FuncId} {args : List V} {dst : Nat} : P2 P none (some (p, f, args)) dst s k = P3 P (dVs args) p f dst s k := rfl
theorem P3_some {ds : List D} {p : Prop} {f : FuncId} {dst : Nat} : P3 P (some ds) p f dst s k = (p ∧ ParK P f ds dst s k) := rfl
theorem PZ_some {zs : List V} {dst : Nat} : PZ (some zs) dst s k = k ⟨tput s.tm dst (.ptr s.heap.length 0 0), s.heap ++ [.cells zs]⟩ := rfl
theorem ParK.pd {f : FuncId} {ds : List D} {dst : Nat} {x0 : V} (h : PD P f ds x0) (hb : V.bel 0 x0 = true) (hk : k ⟨tput s.tm dst x0, s.heap⟩) : ParK P f ds dst s k := ⟨x0, hb, h, hk⟩
end
attribute [push_cast] parAt_eq parRun_nil parRun_cons parC_eq P0_some P1_call P1_alloc P2_some P3_some PZ_some

end Go.Aw

namespace Go.Aw
set_option linter.unusedSimpArgs false
set_option linter.unusedVariables false
open Go.RowKit

def Still {α : Type} (m : Sem α) : Prop := ∀ (P : Program) (w : World) (x : α) (w1 : World), m.run P w = .ok x w1 → w1 = w ∧ ∀ w' : World, m.run P w' = .ok x w'
def Never {α : Type} (m : Sem α) : Prop := ∀ (P : Program) (w : World) (x : α) (w1 : World), m.run P w = .ok x w1 → False
theorem Never.still {α : Type} {m : Sem α} (h : Never m) : Still m := fun P w x w1 e => (h P w x w1 e).elim
theorem still_pure {α : Type} (a : α) : Still (Pure.pure a : Sem α) := fun P w x w1 e => by
  simp only [Sem.run_pure] at e ⊢
  cases e
  exact ⟨rfl, fun _ => rfl⟩
theorem never_halt {α : Type} (h : Halt) : Never (Sem.halt h : Sem α) := fun P w x w1 e => by
  simp only [Sem.run_halt] at e
  cases e
theorem still_bind {α β : Type} {m : Sem α} {f : α → Sem β} (hm : Still m) (hf : ∀ x, Still (f x)) : Still (m >>= f) := fun P w x w1 e => by
  rw [Sem.run_bind] at e
  cases h : m.run P w with
  | halt h' w' => rw [h] at e; cases e
  | ok a w' =>
    rw [h] at e
    obtain ⟨e1, h1⟩ := hm P w a w' h
    subst e1
    obtain ⟨e2, h2⟩ := hf a P _ x w1 e
    exact ⟨e2, fun w'' => by rw [Sem.run_bind, h1 w'']; exact h2 w''⟩
theorem never_bind {α β : Type} {m : Sem α} {f : α → Sem β} (hf : ∀ x, Never (f x)) : Never (m >>= f) := fun P w x w1 e => by
  rw [Sem.run_bind] at e
  cases h : m.run P w with
  | halt h' w' => rw [h] at e; cases e
  | ok a w' => rw [h] at e; exact hf a P _ x w1 e
theorem still_program : Still (program) := fun P w x w1 e => by
  cases e
  exact ⟨rfl, fun _ => rfl⟩
theorem never_stuck {α : Type} (s : String) : Never (stuck s : Sem α) := fun P w x w1 e => by cases e
theorem never_unsup {α : Type} (s : Unsupported) : Never (unsupported s : Sem α) := fun P w x w1 e => by cases e
theorem never_panic {α : Type} (v : Value) : Never (goPanic v : Sem α) := fun P w x w1 e => by cases e

def kindM : Op → Bool
  | .move _ => true
  | .slice .. => true
  | .assign _ => true
  | .pick .. => true
  | .indexAddr .. => true
  | _ => false

theorem still_info (t : TypeId) : Still (typeInfo t) := by
  unfold typeInfo
  repeat' (first | exact still_pure _ | exact (never_stuck _).still | exact still_program | (refine still_bind ?_ fun _ => ?_) | split | dsimp only)
theorem still_under (t : TypeId) : Still (underlying t) := by
  unfold underlying
  repeat' (first | exact still_pure _ | exact (never_stuck _).still | exact still_program | (refine still_bind ?_ fun _ => ?_) | split | dsimp only)
theorem still_size (t : TypeId) : Still (sizeOf t) := still_bind (still_info t) fun _ => still_pure _
theorem never_rt {α : Type} (e : RuntimeError) : Never (runtimePanic e : Sem α) := by
  unfold runtimePanic
  refine never_bind fun p => ?_
  cases e <;> repeat' (first | exact never_panic _ | (refine never_bind fun _ => ?_) | dsimp only)
theorem never_bp {α : Type} (k : IntKind) (i : Int) (y : Int) (c : BoundsCode) : Never (boundsPanic k i y c : Sem α) := by
  unfold boundsPanic
  dsimp only
  split <;> exact never_bind fun _ => never_rt _
theorem still_asIntOf (v : Value) : Still (asIntOf v) := by
  unfold asIntOf
  split <;> first | exact still_pure _ | exact (never_stuck _).still | exact (never_unsup _).still
theorem still_asAddr (v : Value) : Still (asAddr v) := by
  unfold asAddr
  split <;> first | exact still_pure _ | exact (never_stuck _).still | exact (never_rt _).still
theorem still_sure (v : Value) : Still (Instr.sureAddr v) := by
  unfold Instr.sureAddr
  split <;> first | exact still_pure _ | exact (never_stuck _).still
theorem still_sb (v : Value) (y : Nat) (c : BoundsCode) : Still (Instr.sliceBound v y c) := by
  unfold Instr.sliceBound
  repeat' (first | exact still_pure _ | exact (never_bp _ _ _ _).still | exact still_asIntOf _ | (refine still_bind ?_ fun _ => ?_) | split | dsimp only)
theorem still_sbs (b : Bool) (l c : Nat) (x y z : Option Value) : Still (Instr.sliceBounds b l c x y z) := by
  unfold Instr.sliceBounds
  cases x <;> cases y <;> cases z <;> dsimp only <;>
  repeat' (first | exact still_pure _ | exact (never_stuck _).still | exact still_sb _ _ _ | (refine still_bind ?_ fun _ => ?_) | split | dsimp only)
theorem still_slice (t : TypeId) (x : Value) (a b c : Option Value) : Still (Instr.slice t x a b c) := by
  unfold Instr.slice
  repeat' (first | exact still_pure _ | exact (never_stuck _).still | exact still_under _ | exact still_sbs _ _ _ _ _ _ | exact still_size _ | exact still_asAddr _ | (refine still_bind ?_ fun _ => ?_) | split | dsimp only)
theorem still_sliceAt (t : TypeId) (x : Value) (a b c : Option Value) : Still (Instr.sliceAt t x a b c) := by
  unfold Instr.sliceAt
  repeat' (first | exact still_pure _ | exact (never_stuck _).still | exact still_under _ | exact still_sbs _ _ _ _ _ _ | exact still_size _ | exact still_sure _ | exact still_slice _ _ _ _ _ | (refine still_bind ?_ fun _ => ?_) | split | dsimp only)

theorem still_asBool (v : Value) : Still (asBool v) := by
  unfold asBool
  split <;> first | exact still_pure _ | exact (never_stuck _).still
theorem still_indexAt (t : TypeId) (x i : Value) : Still (Instr.indexAt t x i) := by
  unfold Instr.indexAt
  repeat' (first | exact still_pure _ | exact (never_stuck _).still | exact (never_unsup _).still | exact (never_bp _ _ _ _).still | exact still_under _ | exact still_size _ | exact still_sure _ | exact still_asIntOf _ | (refine still_bind ?_ fun _ => ?_) | split | dsimp only)

theorem still_op (ev : Operand → Value) (o : Oper) (h : kindM o.op = true) : Still (execOp ev o) := by
  unfold kindM at h
  split at h
  · rename_i x hx
    simp only [execOp, hx]
    exact still_pure _
  · rename_i t x a b c hx
    simp only [execOp, hx]
    exact still_bind (still_sliceAt _ _ _ _ _) fun _ => still_pure _
  · rename_i x hx
    simp only [execOp, hx]
    exact still_pure _
  · rename_i c x y hx
    simp only [execOp, hx]
    refine still_bind (still_asBool _) fun _ => ?_
    split <;> exact still_pure _
  · rename_i t x i hx
    simp only [execOp, hx]
    exact still_bind (still_indexAt _ _ _) fun _ => still_pure _
  · cases h

variable {P : Program} {ops : Array Oper} {Q : Exit → Act → World → Prop}

def YieldsM (P : Program) (ops : Array Oper) (o : Oper) (v : Value) (a : Act) : Prop :=
  (Region.wanted o (yielded ops a.tmps) = true ∧ ∀ w', (execOp a.eval o).run P w' = .ok (.value v) w') ∨
  (Region.wanted o (yielded ops a.tmps) = false ∧ v = undef)

theorem YieldsK.toM {w : World} {o : Oper} {v : Value} {a : Act} (h : YieldsK P ops w o v a) (hk : kindM o.op = true) : YieldsM P ops o v a :=
  h.imp (fun ⟨h1, h2⟩ => ⟨h1, (still_op a.eval o hk P w _ _ (h2 w (Keep.refl w))).2⟩) id

theorem YieldsM.wpOp {i : Nat} {o : Oper} {v : Value} {a : Act} {w : World} (hi : ops[i]? = some o) (hy : YieldsM P ops o v a) {K : Act → World → Prop} (h : K (a.put o.dst v) w) : wpOp P ops Q i K a w := by
  unfold Go.wpOp
  simp only [hi]
  rcases hy with ⟨hw, hv⟩ | ⟨hw, rfl⟩
  · simp only [hw, if_true, Oper.wp, hv w, Oper.upon]; exact .inl h
  · simp only [hw, Bool.false_eq_true, if_false]; exact h

theorem YieldsM.of_same {o : Oper} {v : Value} {a a' : Act} (hy : YieldsM P ops o v a) (he : execOp a'.eval o = execOp a.eval o)
    (hw : Region.wanted o (yielded ops a'.tmps) = Region.wanted o (yielded ops a.tmps)) : YieldsM P ops o v a' := by
  unfold YieldsM at *
  rw [he, hw]
  exact hy

theorem wpOp_putM {j : Nat} {oi oj : Oper} {v : Value} (hj : ops[j]? = some oj) (hap : oi.apart ops oj = true)
    (hsi : ∀ cs b, oi.op ≠ .select cs b) (hsj : ∀ cs b, oj.op ≠ .select cs b)
    (hQ : ∀ c a w, Q (.panic c) (a.put oi.dst v) w → Q (.panic c) a w) {K : Act → World → Prop} {a : Act} {w : World}
    (hy : YieldsM P ops oi v a) (h : wpOp P ops Q j K (a.put oi.dst v) w) :
    wpOp P ops Q j (fun a' w' => YieldsM P ops oi v a' ∧ K (a'.put oi.dst v) w') a w := by
  obtain ⟨h1, h2, h3⟩ := Oper.apart_spec hap
  have keep : ∀ (a : Act), YieldsM P ops oi v a → ∀ u, YieldsM P ops oi v (a.put oj.dst u) := fun a hy u =>
    hy.of_same (execOp_put oi hsi a oj.dst u h3) (wanted_put oi a oj.dst u h3)
  have keepD : ∀ d, YieldsM P ops oi v { a with defers := d :: a.defers } := fun d => hy.of_same rfl rfl
  unfold wpOp at *
  simp only [hj] at *
  rw [wanted_put oj a oi.dst v h1] at h
  split
  · rename_i hw
    simp only [hw, if_true] at h
    rcases h with h | ⟨hasks, hlets⟩
    case inr => exact .inr ⟨by unfold Oper.asks at *; rw [execOp_put oj hsj a oi.dst v h1] at hasks; exact hasks, hlets⟩
    refine .inl ?_
    unfold Oper.wp at *
    rw [execOp_put oj hsj a oi.dst v h1] at h
    generalize (execOp a.eval oj).run P w = r at *
    cases r with
    | ok n w' =>
      cases n <;> simp only [Oper.upon] at h ⊢
      case value u => exact ⟨keep a hy u, by rw [← Act.put_comm a v u h2]; exact h⟩
      case skip => exact ⟨keep a hy _, by rw [← Act.put_comm a v undef h2]; exact h⟩
      case defer d =>
        refine ⟨keep _ (keepD d) _, ?_⟩
        rw [← Act.put_comm _ v undef h2, ← Act.put_defers]
        exact h
      case enter f args =>
        refine Calls.mono h fun e w'' he => ?_
        cases e with
        | returned u => exact ⟨keep a hy u, by rw [← Act.put_comm a v u h2]; exact he⟩
        | panicked c => exact hQ _ _ _ he
        | outgrown => exact he
      case row row args => exact Rows.mono h fun u w'' he => ⟨keep a hy u, by rw [← Act.put_comm a v u h2]; exact he⟩
    | halt x w' =>
      cases x <;> simp only [Oper.upon] at h ⊢
      case panic u => exact hQ _ _ _ h
  · rename_i hw
    simp only [hw] at h
    exact ⟨keep a hy _, by rw [← Act.put_comm a v undef h2]; exact h⟩

theorem wpAnyT_firstM {i : Nat} {oi : Oper} {v : Value} (S : List Nat) (hi : ops[i]? = some oi) (hsel : ∀ (j : Nat) (o : Oper) cs b, ops[j]? = some o → o.op ≠ .select cs b)
    (hQ : ∀ c a w, Q (.panic c) (a.put oi.dst v) w → Q (.panic c) a w) :
    ∀ (fuel : Nat) (listed : Array Bool) (a : Act) (w : World),
      (∀ j oj, ops[j]? = some oj → j ≠ i → listed.getD j true = false → j ∉ S → oi.apart ops oj = true) →
      (∀ j, j ∈ S → listed.getD j true = false ∧ ∃ oj e, ops[j]? = some oj ∧ e ∈ oj.after ∧ Region.binds .any e = true ∧ (e.on = i ∨ e.on ∈ S)) →
      i ∈ Region.ready .any ops listed → YieldsM P ops oi v a →
      wpAnyT P ops Q fuel (listed.setIfInBounds i true) (a.put oi.dst v) w → wpAnyT P ops Q (fuel + 1) listed a w := by
  intro fuel
  induction fuel with
  | zero =>
    intro listed a w _ _ hr hy H
    refine ⟨fun h => (by rw [h] at hr; cases hr), fun j hj => ?_⟩
    by_cases hji : j = i
    · subst hji; exact hy.wpOp hi ⟨.inr (Keep.refl w), H⟩
    · have := ready_mono hj hji
      rw [H.1] at this
      cases this
  | succ fuel ih =>
    intro listed a w hfree hS hr hy H
    refine ⟨fun h => (by rw [h] at hr; cases hr), fun j hj => ?_⟩
    by_cases hji : j = i
    · subst hji; exact hy.wpOp hi ⟨.inr (Keep.refl w), H⟩
    · have h1 := H.2 j (ready_mono hj hji)
      obtain ⟨hjun, oj, hoj, hall⟩ := mem_ready.1 hj
      have notOn : ∀ k, listed.getD k true = false → ∀ e ∈ oj.after, Region.binds .any e = true → e.on ≠ k := fun k h0 e he hb heq => by
        have h1 := hall e he hb
        rw [heq] at h1
        rcases Nat.lt_or_ge k listed.size with h' | h'
        · simp [h'] at h0 h1; rw [h0] at h1; cases h1
        · simp [Array.getElem?_eq_none h'] at h1
      have hjS : j ∉ S := fun hjS => by
        obtain ⟨_, ok, e, hok, he, hb, hon⟩ := hS j hjS
        rw [hoj] at hok
        cases hok
        rcases hon with hon | hon
        · exact notOn i (mem_ready.1 hr).1 e he hb hon
        · exact notOn e.on (hS _ hon).1 e he hb rfl
      have hap := hfree j oj hoj hji hjun hjS
      have h2 := wpOp_putM hoj hap (fun cs b => hsel i oi cs b hi) (fun cs b => hsel j oj cs b hoj) hQ hy h1
      have hfree' : ∀ k ok, ops[k]? = some ok → k ≠ i → (listed.setIfInBounds j true).getD k true = false → k ∉ S → oi.apart ops ok = true := fun k ok hk hki hun hno => by
        refine hfree k ok hk hki ?_ hno
        by_cases hjk : j = k
        · subst hjk; exact hjun
        · rw [getD_set_ne true hjk] at hun; exact hun
      have hS' : ∀ k, k ∈ S → (listed.setIfInBounds j true).getD k true = false ∧ ∃ oj e, ops[k]? = some oj ∧ e ∈ oj.after ∧ Region.binds .any e = true ∧ (e.on = i ∨ e.on ∈ S) := fun k hk => by
        obtain ⟨q1, q2⟩ := hS k hk
        have hjk : j ≠ k := fun e => hjS (e ▸ hk)
        exact ⟨by rw [getD_set_ne true hjk]; exact q1, q2⟩
      refine wpOp_mono (fun a' w' h3 => ?_) h2
      obtain ⟨g1, g2, g3⟩ := h3
      refine ⟨g2, ih (listed.setIfInBounds j true) a' w' hfree' hS' (ready_mono hr (Ne.symm hji)) g1 ?_⟩
      rw [Array.setIfInBounds_comm _ _ hji]
      exact g3

def freeM (ops : Array Oper) (listed : Array Bool) (i : Nat) (S : List Nat) : Bool :=
  match ops[i]? with
  | none => false
  | some oi => kindM oi.op && (List.range ops.size).all fun j => match ops[j]? with
    | none => true
    | some oj => j == i || listed.getD j true || S.contains j || oi.apart ops oj
def freeZ (ops : Array Oper) (listed : Array Bool) (i : Nat) : Bool := freeT ops listed i || freeM ops listed i (blkd ops listed i (List.range ops.size) [])

theorem free_firstZ {i : Nat} {oi : Oper} {v : Value} (hi : ops[i]? = some oi) (hsel : ∀ (j : Nat) (o : Oper) cs b, ops[j]? = some o → o.op ≠ .select cs b)
    (hQ : ∀ c a w, Q (.panic c) (a.put oi.dst v) w → Q (.panic c) a w) (fuel : Nat) (listed : Array Bool) (a : Act) (w : World) (h : freeZ ops listed i = true) (hr : i ∈ Region.ready .any ops listed) (hy : YieldsK P ops w oi v a)
    (H : wpAnyT P ops Q fuel (listed.setIfInBounds i true) (a.put oi.dst v) w) : wpAnyT P ops Q (fuel + 1) listed a w := by
  unfold freeZ at h
  rw [Bool.or_eq_true] at h
  rcases h with h | h
  · exact free_first hi hsel hQ fuel listed a w h hr hy H
  · generalize hS : blkd ops listed i (List.range ops.size) [] = S at h
    have hb := blkd_spec (ops := ops) (listed := listed) (i := i) (List.range ops.size) [] (fun k hk => by cases hk)
    rw [hS] at hb
    unfold freeM at h
    rw [hi] at h
    simp only [Bool.and_eq_true] at h
    refine wpAnyT_firstM S hi hsel hQ fuel listed a w (fun j oj hj hji hun hno => ?_) hb hr (hy.toM h.1) H
    have hlt : j < ops.size := (Array.getElem?_eq_some_iff.1 hj).1
    have := List.all_eq_true.1 h.2 j (List.mem_range.2 hlt)
    rw [hj] at this
    simp only [Bool.or_eq_true, beq_iff_eq, List.contains_iff_mem] at this
    rcases this with ((h1 | h1) | h1) | h1
    · exact absurd h1 hji
    · rw [hun] at h1; cases h1
    · exact absurd h1 hno
    · exact h1

def preOkM (ops : Array Oper) : List Nat → Array Bool → Bool
  | [], _ => true
  | i :: r, listed =>
    (match ops[i]? with
     | none => false
     | some o => if kindQ o.op then (Region.ready .any ops listed).contains i && freeZ ops listed i else Region.ready .any ops listed == [i]) && preOkM ops r (listed.setIfInBounds i true)

theorem preM_sound {B : Base} {n m : Nat} (hd : dstsOk n ops = true) (hsel : Region.noSelect ops = true) (hQ : ∀ c a w, ¬ Q (.panic c) a w) : ∀ (l : List Nat) (listed : Array Bool) (s : St) (a : Act) (w : World) (E : Env) (F : Nat → Prop) (K : St → Prop), a.tmps.size = n → Sim B s a w E F →
    OpsVC P B.keep ops (l.filterMap (ops[·]?)) s K → preOkM ops l listed = true →
    (∀ a' w' s' E' F', K s' → Sim B s' a' w' E' F' → a'.tmps.size = n → ∀ fuel, m ≤ fuel → wpAnyT P ops Q fuel (setAll l listed) a' w') → ∀ fuel, l.length + m ≤ fuel → wpAnyT P ops Q fuel listed a w
  | [], listed, s, a, w, E, F, K, hn, hs, h, hok, hq, fuel, hf => hq a w s E F h hs hn fuel (by simpa using hf)
  | i :: l, listed, s, a, w, E, F, K, hn, hs, h, hok, hq, 0, hf => by simp at hf
  | i :: l, listed, s, a, w, E, F, K, hn, hs, h, hok, hq, fuel + 1, hf => by
    simp only [preOkM, Bool.and_eq_true] at hok
    obtain ⟨hok, hrest⟩ := hok
    split at hok
    · cases hok
    rename_i o ho
    simp only [List.filterMap_cons, ho, OpsVC] at h
    have ih := fun s a w E F hn hs h => preM_sound hd hsel hQ l (listed.setIfInBounds i true) s a w E F K hn hs h hrest hq fuel (by simp at hf; omega)
    rcases op_sound (Q := Q) hs (fun d hd' => by rw [hn]; exact dstsOk_spec hd ho d hd') h with ⟨v, s', hK, hs', hw⟩ | ⟨hnq, hw⟩
    · have ih' := ih s' _ w E F (by rw [size_put]; exact hn) hs' hK
      have hy : YieldsK P ops w o v a := hw
      split at hok
      · simp only [Bool.and_eq_true] at hok
        exact free_firstZ ho (noSel hsel) (fun c a w hh => absurd hh (hQ c _ w)) fuel listed a w hok.2 (by simpa using hok.1) hy ih'
      · have hr : Region.ready .any ops listed = [i] := by simpa using hok
        refine ⟨(fun h0 => by rw [hr] at h0; cases h0), fun j hj => ?_⟩
        rw [hr] at hj
        simp at hj
        subst hj
        exact hy.wpOp ho ⟨.inr (Keep.refl w), ih'⟩
    · rw [hnq] at hok
      have hr : Region.ready .any ops listed = [i] := by simpa using hok
      refine ⟨(fun h0 => by rw [hr] at h0; cases h0), fun j hj => ?_⟩
      rw [hr] at hj
      simp at hj
      subst hj
      unfold wpOp
      simp only [ho]
      rcases hw with ⟨hw, hwp⟩ | ⟨hw, s', F', hK, hs'⟩
      · rw [hw, if_pos rfl]
        refine .inl (Oper.wp_mono (fun a' w' ⟨hkt, v, s', E', F', ha, hK, hs'⟩ => ?_) hwp)
        subst ha
        exact ⟨by simpa [ho] using hkt, ih s' _ w' E' F' (by rw [size_put]; exact hn) hs' hK⟩
      · rw [hw]
        exact ⟨.inr (Keep.refl w), ih s' _ w E F' (by rw [size_put]; exact hn) hs' hK⟩

theorem awpF_drawM {kp : List Nat} {n : Nat} {s : St} {Q : Exit → St → Prop} {id : Nat} (pre l : List Nat) (d : DT) (hm : P.follows .mixedOrders = true)
    (hc : (Region.noSelect ops && preOkM ops pre (Array.replicate ops.size false) && parSyn ops l && consP ops l (setAll pre (Array.replicate ops.size false)) && parChk ops l l (setAll pre (Array.replicate ops.size false)) false && d.ok ops true (setAll l (setAll pre (Array.replicate ops.size false)))) = true) (hl : Nat.ble (pre.length + (l.length + d.depth)) ops.size = true)
    (h : ∀ K : St → Prop, (∀ t, Q .normal t → K t) → contRun P kp ops (.vc (pre.filterMap (ops[·]?))) s (ParAt P kp ops l d K)) : AWP P kp n (.region id ops true) s Q := by
  intro hok B a w E F h1 h2 h3
  subst h1
  simp only [Bool.and_eq_true] at hc
  obtain ⟨⟨⟨⟨⟨c1, c2⟩, c3⟩, c6⟩, c4⟩, c5⟩ := hc
  have hQ : ∀ c a w, ¬ (fun e a' w' => (∀ ch, e ≠ .panic ch) ∧ e ≠ .outgrown ∧ ∃ s' E' F', Q e s' ∧ Sim B s' a' w' E' F' ∧ a'.tmps.size = n) (.panic c) a w := fun c a w hh => hh.1 c rfl
  refine wp_region_any hm (wpAny_of_T _ _ _ _ (preM_sound (ops := ops) (n := n) (m := l.length + d.depth) hok c1 hQ pre _ s a _ E F _ h2 h3.drew (h _ fun t ht => ht) c2 ?_ _ (Nat.le_of_ble_eq_true hl)))
  rintro a1 w1 s1 E1 F1 ⟨hb1, hb2, hpar⟩ hs1 hn1 fuel hf
  simp only [parSyn, Bool.and_eq_true, decide_eq_true_eq, List.all_eq_true] at c3
  obtain ⟨⟨n1, n2⟩, c3⟩ := c3
  have hsyn : ∀ i, i ∈ l → ∃ o, ops[i]? = some o ∧ o.guard = none ∧ ∀ c, o.op = .call c → valCall c = true := fun i hi => by
    have := c3 i hi
    cases ho : ops[i]? with
    | none => rw [ho] at this; cases this
    | some o =>
      rw [ho] at this
      simp only [Bool.and_eq_true, Option.isNone_iff_eq_none] at this
      refine ⟨o, rfl, this.1, fun c hc => ?_⟩
      have := this.2
      rw [hc] at this
      simp only [Bool.and_eq_true] at this
      exact this.1
  obtain ⟨its, e1, e2, e3, e4⟩ := par_items hsyn l s1 (fun _ h => h) hpar
  have ed : its.map It.d = l.filterMap fun i => (ops[i]?).bind (·.dst) := by
    rw [← e1]
    clear e1 e3 e4 hpar
    induction its with
    | nil => rfl
    | cons x r ih =>
      obtain ⟨o, ho, _, hd, _⟩ := e2 x (by simp)
      rw [List.map_cons, List.map_cons, List.filterMap_cons]
      simp only [ho, Option.bind_some, hd]
      rw [ih fun y hy => e2 y (by simp [hy])]
  have hdep : DepOk ops its := by
    intro it hit o c ho hc t ht y hy
    have := c3 it.i (by rw [← e1]; exact List.mem_map_of_mem hit)
    rw [ho] at this
    simp only [hc, Bool.and_eq_true, List.all_eq_true] at this
    have := this.2.2 _ ht
    simp only [Bool.not_eq_true', List.contains_eq_mem, decide_eq_false_iff_not] at this
    intro e
    refine this ?_
    rw [← ed, ← e]
    exact List.mem_map_of_mem hy
  have hk : ∀ i, i ∈ B.keep → i < s1.heap.length := fun i hi => by
    obtain ⟨e, h1, _⟩ := hs1.rel.keep i hi
    rw [← hs1.rel.hr.len]
    exact (List.getElem?_eq_some_iff.1 h1).1
  have hfl : (its.filter fun it => (fun _ => true) it.i).length = l.length := by
    rw [List.filter_eq_self.2 fun _ _ => rfl, ← e1, List.length_map]
  have := par_sound (P := P) (B := B) (m := d.depth) hok (by rw [e1]; exact n1) (by rw [ed]; exact n2) e2 e3 hb1 hb2 hk hdep _ (by rw [e1]; exact c4) (Q := fun e a' w' => (∀ ch, e ≠ .panic ch) ∧ e ≠ .outgrown ∧ ∃ s' E' F', Q e s' ∧ Sim B s' a' w' E' F' ∧ a'.tmps.size = n)
    (fun a w E F hs hn fuel hf => draw_soundT (ops := ops) (n := n) hok c1 hQ d.depth d (Nat.le_refl _) _ _ a w E F (fun t => Q .normal t) hn hs e4 (by rw [e1]; exact c5) (fun a' w' s' E' F' hK hs hn => ⟨by simp, by simp, s', E', F', hK, hs, hn⟩) fuel hf)
    l.length (fun _ => true) hfl (by rw [show ((its.map It.i).filter fun i => !((fun _ => true) i)) = [] by simp, e1]; exact c6) a1 w1 _ F1 hn1 (stg_start hs1) fuel (by omega)
  rw [show ((its.map It.i).filter fun i => !((fun _ => true) i)) = [] by simp] at this
  exact this

end Go.Aw
