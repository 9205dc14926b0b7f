/-
  Texts of the library, one behind the other. Over any program; no condition.
-/
import Derived.RangeFuncBox
import Derived.RangeFuncLeaves
import Derived.Shelf.Abstract
import Derived.OwnWalkIn
import Derived.TacticsInMore
import Derived.LoopNIn
import Derived.LoopIn
import Derived.RangeFuncCalls
import Derived.RangeFuncNested
import Derived.Test.YtmmnjelmahcbaaaGreatPkE
import Derived.Test.YtmmnjelmahcbaaaGreatPkD
namespace Go.Aw
set_option linter.unusedSimpArgs false
set_option linter.unusedVariables false
open Go.RowKit Go.Proofs Go.Nt Go.Rl

def rowN (g : Nat → Nat) (m : Nat) : List (List D) := (List.range m).map fun k => [(Go.Aw.D.sl ((digs B64 (g k)).map encW))]
theorem rowN_len (g : Nat → Nat) (m : Nat) : (rowN g m).length = m := by simp [rowN]
theorem rowN_get (g : Nat → Nat) {m j : Nat} (h : j < m) : (rowN g m)[j]? = some [(Go.Aw.D.sl ((digs B64 (g j)).map encW))] := by simp [rowN, h]
theorem rowN_set (g : Nat → Nat) (m j v : Nat) : (rowN g m).set j [(Go.Aw.D.sl ((digs B64 (v)).map encW))] = rowN (fun k => if k = j then v else g k) m := by
  apply List.ext_getElem
  · simp [rowN]
  · intro i h1 h2
    simp only [rowN, List.getElem_set, List.getElem_map, List.getElem_range]
    split
    · rename_i h; subst h; simp
    · rename_i h; rw [if_neg (Ne.symm h)]
theorem rowN_zero (m : Nat) : List.replicate m [D.sl []] = rowN (fun _ => 0) m := by
  apply List.ext_getElem
  · simp [rowN]
  · intro i h1 h2
    simp [rowN, digs_zero]
theorem rowN_row {g : Nat → Nat} {m : Nat} {row : List D} (h : row ∈ rowN g m) : row.length = 1 ∧ row.all D.leaf = true := by
  obtain ⟨x, _, rfl⟩ := List.mem_map.1 h; exact ⟨rfl, rfl⟩
theorem rowN_congr {g g' : Nat → Nat} {m : Nat} (h : ∀ k, k < m → g k = g' k) : rowN g m = rowN g' m := by
  apply List.map_congr_left
  intro k hk
  rw [h k (List.mem_range.1 hk)]

/-- The next row while it is made. -/
def mk (p q n j k : Nat) : Nat := if k < j then cs p q (n + 1) k else if k = j then (match j with | 0 => 0 | i + 1 => p * cs p q n i) else 0

theorem cs_le (p q n k : Nat) : cs p q n k ≤ (p + q) ^ n := by
  have h1 : lo p q n (k + 1) = lo p q n k + cs p q n k := rfl
  have h2 := lo_le p q n (k + 1)
  omega

theorem mk_step (p q n j : Nat) : mk p q n j j + cs p q n j * q = cs p q (n + 1) j := by
  unfold mk
  rw [if_neg (Nat.lt_irrefl _), if_pos rfl]
  cases j with
  | zero => simp only [cs]; rw [Nat.zero_add, Nat.mul_comm]
  | succ i => simp only [cs]; rw [Nat.add_comm, Nat.mul_comm]
theorem mk_next (p q n j m : Nat) : rowN (fun k => if k = j + 1 then cs p q n j * p else if k = j then cs p q (n + 1) j else mk p q n j k) m = rowN (mk p q n (j + 1)) m := by
  apply rowN_congr
  intro k _
  unfold mk
  by_cases h1 : k = j + 1
  · subst h1; simp [Nat.mul_comm]
  · rw [if_neg h1]
    by_cases h2 : k = j
    · subst h2; simp
    · rw [if_neg h2]
      by_cases h3 : k < j
      · rw [if_pos h3, if_pos (by omega)]
      · rw [if_neg h3, if_neg (by omega), if_neg (by omega), if_neg (by omega)]
theorem mk_all (p q n : Nat) : rowN (mk p q n (n + 1)) (n + 2) = rowN (cs p q (n + 1)) (n + 2) := by
  apply rowN_congr
  intro k hk
  unfold mk
  by_cases h : k < n + 1
  · rw [if_pos h]
  · obtain rfl : k = n + 1 := by omega
    rw [if_neg h, if_pos rfl]
    simp only [cs]
    rw [cs_big p q n (n + 1) (by omega)]; simp

theorem p65 (n f d : Nat) (hn : n ≤ 60) (hf : f ≤ d) (hd : d ≤ 1000) : PD Tryz.prog 59 [.int .i64 n, .agg [.int .i64 f, .int .i64 d]] (.d (.sl (rowN (cs f (d - f) n) (n + 1)))) := by
  have h92 := p92 1 (by decide)
  obtain ⟨q, hq⟩ : ∃ q, d - f = q := ⟨_, rfl⟩
  rw [hq]
  have hdq : d = f + q := by omega
  have hwq : IntKind.u64.wrap (IntKind.i64.wrap ((d : Int) - f)) = q := by rw [wrapI _ (by omega), show (d : Int) - f = q by omega]; exact uwn q (by omega)
  have hwf : IntKind.u64.wrap (f : Int) = f := uwn f (by omega)
  have hfit : ∀ a b : Nat, a ≤ 60 → nw (cs f q a b) ≤ 10 := fun a b ha => Nat.le_trans (nw_mono (cs_le f q a b)) (nw_pow (by omega) ha)
  show PD Tryz.prog 59 _ (ofD (.sl (rowN (cs f (q) n) (n + 1))))
  refine pdd_of (fn := Tryz.f59) [.tmp 4] (by kernel_rfl) rfl (by kernel_rfl) (Nat.le_of_ble_eq_true rfl) (by kernel_rfl) rfl ?_
  refine awp_seq ?_
  refine awpF_region ?_; intro K hK; simp only [push_cast, seval]; (try simp (disch := omega) only [wrapI]); (repeat ((with_reducible refine And.intro ?_ ?_); (focus (exact ob1)))); refine hK _ ?_; clear hK; clear K
  refine awp_seq ?_
  refine awpF_region ?_; intro K hK; simp only [push_cast, seval]
  refine CallK.pd (h92) ?_; simp only [push_cast, seval]; (try simp (disch := omega) only [wrapI]); (repeat ((with_reducible refine And.intro ?_ ?_); (focus (exact ob1))))
  (repeat ((with_reducible refine And.intro ?_ ?_); (focus (exact ob1))))
  refine hK _ ?_; clear hK; clear K
  refine awp_seq ?_
  refine awp_seq ?_
  refine awpF_region ?_; intro K hK; simp only [push_cast, seval]; (try simp (disch := omega) only [wrapI]); (repeat ((with_reducible refine And.intro ?_ ?_); (focus (exact ob1)))); refine hK _ ?_; clear hK; clear K
  refine awp_block ?_
  refine awp_loopP (st := fun (m : Nat) => ⟨[(3, .ptr 0 0 0), (5, .ref 1 0 (m + 1)), (11, .d (.int .i64 n)), (12, .d (.int .i64 m))], [.cells [.d (.int .i64 f), .d (.int .i64 d)], .data 1 (rowN (cs f (q) m) (m + 1))]⟩) (inv := fun m => m ≤ n) (μ := fun m => n - m) (x0 := 0) (r0 := [0, 1]) ?_ ?_ ?_
  · exact Nat.zero_le _
  · rw [show rowN (cs f (q) 0) (0 + 1) = [[(Go.Aw.D.sl ((digs B64 (1)).map encW))]] from rfl]
    exact ⟨by simp, by simp, by simp [push_cast, seval], by simp [push_cast, seval], by simp [push_cast, seval], by simp [push_cast, seval]⟩
  intro m hm
  refine awp_seq ?_
  refine awpF_region ?_; intro K hK; simp only [push_cast, seval]; (try simp (disch := omega) only [wrapI]); (repeat ((with_reducible refine And.intro ?_ ?_); (focus (exact ob1)))); refine hK _ ?_; clear hK; clear K
  refine awp_seq ?_
  apply awp_cond; (focus (simp only [push_cast, seval]; rfl))
  · intro h1; (try simp only [decide_eq_true_eq, decide_eq_false_iff_not, Bool.not_eq_true', Bool.not_eq_false', Bool.and_eq_true, Bool.or_eq_true, Bool.not_eq_true] at h1)
    refine awp_skip ?_
    refine awp_seq ?_
    refine awp_block ?_
    refine awp_seq ?_
    have hw : IntKind.i64.wrap ((m : Int) + 1 + 1) = (m : Int) + 2 := (wrapI _ (by omega)).trans (by omega)
    have htn : ((m : Int) + 2).toNat = m + 2 := by omega
    refine awpF_region ?_; intro K hK; simp only [push_cast, seval, rowN_len, hw, htn]
    (repeat ((with_reducible refine And.intro ?_ ?_); (focus (exact ob1))))
    rw [rowN_zero]
    refine hK _ ?_; clear hK; clear K
    refine awp_seq ?_
    refine awp_seq ?_
    refine awpF_region ?_; intro K hK; simp only [push_cast, seval]; (try simp (disch := omega) only [wrapI]); (repeat ((with_reducible refine And.intro ?_ ?_); (focus (exact ob1)))); refine hK _ ?_; clear hK; clear K
    refine awp_block ?_
    refine awp_loopP (st := fun (j : Nat) => ⟨[(3, .ptr 0 0 0), (6, .ref 2 0 (m + 2)), (11, .d (.int .i64 n)), (12, .d (.int .i64 m)), (18, .ref 1 0 (m + 1)), (19, .d (.int .i64 ((m + 1 : Nat) : Int))), (20, .d (.int .i64 j))],
      [.cells [.d (.int .i64 f), .d (.int .i64 d)], .data 1 (rowN (cs f (q) m) (m + 1)), .data 1 (rowN (mk f (q) m j) (m + 2))]⟩) (inv := fun j => j ≤ m + 1) (μ := fun j => m + 1 - j) (x0 := 0) (r0 := [0, 1, 2]) ?_ ?_ ?_
    · exact Nat.zero_le _
    · rw [rowN_congr (g := fun _ => 0) (g' := mk f (q) m 0) (fun k _ => by unfold mk; cases k <;> simp)]
      exact ⟨by simp, by simp, by simp [push_cast, seval], by simp [push_cast, seval], by simp [push_cast, seval], by simp [push_cast, seval]⟩
    intro j hj
    refine awp_seq ?_
    refine awpF_region ?_; intro K hK; simp only [push_cast, seval]; (try simp (disch := omega) only [wrapI]); (repeat ((with_reducible refine And.intro ?_ ?_); (focus (exact ob1)))); refine hK _ ?_; clear hK; clear K
    refine awp_seq ?_
    apply awp_cond; (focus (simp only [push_cast, seval]; rfl))
    · intro h2; (try simp only [decide_eq_true_eq, decide_eq_false_iff_not, Bool.not_eq_true', Bool.not_eq_false', Bool.and_eq_true, Bool.or_eq_true, Bool.not_eq_true] at h2)
      refine awp_skip ?_
      have hlt : j < m + 1 := by omega
      have g1 := rowN_get (cs f (q) m) hlt
      have g2 := rowN_get (mk f (q) m j) (m := m + 2) (j := j) (by omega)
      have hst := mk_step f q m j
      have h56 := p56 (cs f q m j) q (Nat.le_trans (hfit m j (by omega)) (by decide)) (by omega)
      have h57 := p56 (cs f q m j) f (Nat.le_trans (hfit m j (by omega)) (by decide)) (by omega)
      have h67 := p67 (mk f q m j j) (cs f q m j * q) (Nat.le_trans (nw_mono (show mk f q m j j ≤ cs f q (m + 1) j by omega)) (Nat.le_trans (hfit (m + 1) j (by omega)) (by decide))) (Nat.le_trans (nw_mono (show cs f q m j * q ≤ cs f q (m + 1) j by omega)) (Nat.le_trans (hfit (m + 1) j (by omega)) (by decide)))
      rw [hst] at h67
      have hwj : IntKind.i64.wrap ((j : Int) + 1) = (j : Int) + 1 := wrapI _ (by omega)
      have htj : ((j : Int) + 1).toNat = j + 1 := by omega
      refine awp_seq ?_
      refine awp_block ?_
      refine awp_seq ?_
      refine awpF_region ?_; intro K hK; simp only [push_cast, seval, rowN_len, g1, Int.toNat_natCast]; (try simp (disch := omega) only [wrapI]); (repeat ((with_reducible refine And.intro ?_ ?_); (focus (exact ob1)))); refine hK _ ?_; clear hK; clear K
      refine awp_seq ?_
      refine awpF_draw [0,1,2,3,4,5,6,7,8,9,10,11,12,13,14,15,16] (by kernel_rfl) (by kernel_rfl) rfl ?_; intro K hK; simp only [push_cast, seval, rowN_len, g2, hwq, Int.toNat_natCast]
      (repeat ((with_reducible refine And.intro ?_ ?_); (focus (exact ob1))))
      refine CallK.pd (h56) ?_; simp only [push_cast, seval]; (try simp (disch := omega) only [wrapI]); (repeat ((with_reducible refine And.intro ?_ ?_); (focus (exact ob1))))
      refine CallK.pd (h67) ?_; simp only [push_cast, seval]; (try simp (disch := omega) only [wrapI]); (repeat ((with_reducible refine And.intro ?_ ?_); (focus (exact ob1))))
      refine hK _ ?_; clear hK; clear K
      rw [rowN_set]
      refine awpF_region ?_; intro K hK; simp only [push_cast, seval, rowN_len, hwf, hwj, htj]
      refine CallK.pd h57 ?_
      simp only [push_cast, seval, rowN_len, hwj, htj]
      (repeat ((with_reducible refine And.intro ?_ ?_); (focus (exact ob1))))
      rw [rowN_set, mk_next]
      refine hK _ ?_; clear hK; clear K
      refine inblock_norm ?_
      refine awpF_region ?_; intro K hK; simp only [push_cast, seval]; (try simp (disch := omega) only [wrapI]); (repeat ((with_reducible refine And.intro ?_ ?_); (focus (exact ob1)))); refine hK _ ?_; clear hK; clear K
      refine round_end (y := j + 1) (r := [0, 1, 2]) (by omega) (by omega) ?_
      exact ⟨by simp, by simp, by simp [push_cast, seval], by simp [push_cast, seval], by simp [push_cast, seval], by simp [push_cast, seval]⟩
    · intro h2; (try simp only [decide_eq_true_eq, decide_eq_false_iff_not, Bool.not_eq_true', Bool.not_eq_false', Bool.and_eq_true, Bool.or_eq_true, Bool.not_eq_true] at h2)
      refine awp_exit ?_; (repeat (first | refine then_exit ?_ | refine inblock_other (by decide) ?_)); refine inblock_same ?_
      rw [show j = m + 1 by omega, mk_all]
      refine awpF_region ?_; intro K hK; simp only [push_cast, seval]; (try simp (disch := omega) only [wrapI]); (repeat ((with_reducible refine And.intro ?_ ?_); (focus (exact ob1)))); refine hK _ ?_; clear hK; clear K
      refine inblock_norm ?_
      refine awpF_region ?_; intro K hK; simp only [push_cast, seval]; (try simp (disch := omega) only [wrapI]); (repeat ((with_reducible refine And.intro ?_ ?_); (focus (exact ob1)))); refine hK _ ?_; clear hK; clear K
      refine round_end (y := m + 1) (r := [0, 2]) (by omega) (by omega) ?_
      exact ⟨by simp, by simp, by simp [push_cast, seval], by simp [push_cast, seval], by simp [push_cast, seval], by simp [push_cast, seval]⟩
  · intro h1; (try simp only [decide_eq_true_eq, decide_eq_false_iff_not, Bool.not_eq_true', Bool.not_eq_false', Bool.and_eq_true, Bool.or_eq_true, Bool.not_eq_true] at h1)
    refine awp_exit ?_; (repeat (first | refine then_exit ?_ | refine inblock_other (by decide) ?_)); refine inblock_same ?_
    refine awp_seq ?_
    refine awpF_region ?_; intro K hK; simp only [push_cast, seval]; (try simp (disch := omega) only [wrapI]); (repeat ((with_reducible refine And.intro ?_ ?_); (focus (exact ob1)))); refine hK _ ?_; clear hK; clear K
    refine awp_ret ?_; (repeat (first | refine then_ret ?_ | refine inblock_ret ?_)); refine fin_of (by simp only [push_cast, seval]; first | done | rfl) ob1 ?_
    have := Deep.data (H := [Blk.cells [V.d (D.int IntKind.i64 ↑f), V.d (D.int IntKind.i64 ↑d)], Blk.data 1 (rowN (cs f (q) m) (m + 1))]) 1 0 (m + 1) 1 (rowN (cs f (q) m) (m + 1)) rfl (by rw [rowN_len]; omega)
    rw [List.drop_zero, List.take_of_length_le (by rw [rowN_len]; exact Nat.le_refl _)] at this
    rw [show n = m by omega]
    exact this

end Go.Aw

namespace Go.Proofs
set_option linter.unusedSimpArgs false
set_option linter.unusedVariables false
open Go.RowKit Go.Shelf
attribute [local go_sem] Oper.semAt_some

set_option maxRecDepth 100000 in
set_option maxHeartbeats 4000000 in
/-- The iterator over a row: for every body that keeps what it reads. -/
theorem Tryz.values1_in (F : Fence) (n : Nat) (h7 : F.fn 108) (hro : F.round = none) (hn : 1 ≤ n) (l box o b off len cap : Nat) (c : Nat → Value) (hreach : len * 8 ≤ 140737488351232) (J : Nat → World → Prop)
    (hR : ∀ k W, J k W → W.cell? ⟨box, o, none⟩ = some (.slice (some ⟨b, off, none⟩) len cap) ∧ ∀ j, j < len → W.cell? ⟨b, off + j, none⟩ = some (c j))
    (hY : ∀ k W, J k W → k < len → YieldAt F (n - 1) Tryz.prog l #[c k] W fun e W' => e = .returned (.bool true) ∧ J (k + 1) W')
    (W : World) (h0 : J 0 W) :
    CallsIn F n Tryz.prog 108 #[.func (.yield l) #[] #[], .pointer (some ⟨box, o, none⟩)] W fun e W' => (∃ v, e = .returned v) ∧ J len W' := by
  refine callsIn_of_wp Tryz.func108 rfl h7 ?_ hro
  simp only [Tryz.ntmps108, List.size_toArray, List.length_cons, List.length_nil, Nat.reduceAdd, Nat.reduceSub, Array.replicate_succ, Array.replicate_zero, List.push_toArray, List.append_toArray, List.nil_append, List.cons_append]
  obtain ⟨hBs, hcs⟩ := hR 0 W h0
  gi_wp2
  gi_loopw [7] (fun i wr => ∃ k : Nat, k ≤ len ∧ i = .int .i64 k ∧ J k wr)
    (fun i _ => len - (intOf i).toNat)
  case atStart => exact ⟨0, Nat.zero_le _, rfl, h0⟩
  case round =>
    obtain ⟨k, hk, rfl, hJs⟩ := hrel
    obtain ⟨hBs', hcs'⟩ := hR k wr hJs
    by_cases hlt : k < len
    · obtain ⟨fn, tmps, assign, body, hy, hRd⟩ := hY _ wr hJs hlt
      have hcx' := hcs' k hlt
      gi_wp2
      refine hRd.mono ?_
      rintro e W3 ⟨rfl, hJ3⟩
      gi_wp2
      go_roundw
      case rel => exact ⟨k + 1, by omega, by simp, hJ3⟩
      case measure => simp [intOf]; omega
    · obtain rfl : k = len := by omega
      gi_wp2
      go_end0
      exact ⟨⟨_, rfl⟩, hJs⟩
end Go.Proofs

namespace Go.Aw
set_option linter.unusedSimpArgs false
set_option linter.unusedVariables false
open Go.RowKit Go.Proofs Go.Nt Go.Shelf
attribute [local go_sem] Oper.semAt_some

theorem arr0 {a : Array Value} (h : a.size = 0) : a = #[] := Array.size_eq_zero_iff.1 h
theorem arr1 {a : Array Value} (h : a.size = 1) : ∃ x, a = #[x] := by
  obtain ⟨l⟩ := a
  match l, h with
  | [x], _ => exact ⟨x, rfl⟩
theorem arr3 {a : Array Value} (h : a.size = 3) : ∃ x y z, a = #[x, y, z] := by
  obtain ⟨l⟩ := a
  match l, h with
  | [x, y, z], _ => exact ⟨x, y, z, rfl⟩

/-- The value stands for the number, in blocks of cells that nobody writes any more, or that are new. -/
def SlAt (F : Nat → Prop) (n0 : Nat) (W : World) (m : Nat) (v : Value) : Prop :=
  ∃ F' : Nat → Prop, (∀ b, F' b → (F b ∨ n0 ≤ b) ∧ ∃ o : Obj, W.heap[b]? = some o ∧ o.isCells = true) ∧ RD F' W (Go.Aw.D.sl ((digs B64 (m)).map encW)) v
/-- What lay when the call began lies as it lay. -/
structure Stays (w W : World) : Prop where
  os : W.os = w.os
  tape : W.tape = w.tape
  later : Later w W
  size : w.heap.size ≤ W.heap.size
  same : ∀ b, b < w.heap.size → W.heap[b]? = w.heap[b]?
theorem Stays.refl (w : World) : Stays w w := ⟨rfl, rfl, Later.refl w, Nat.le_refl _, fun _ _ => rfl⟩
theorem Stays.alloc {w W : World} (h : Stays w W) (o : Obj) : Stays w (W.alloc o) :=
  ⟨h.os, h.tape, ⟨h.later.output, h.later.drawn⟩, Nat.le_trans h.size (by simp), fun b hb => (Below.heap_alloc W o b (Nat.lt_of_lt_of_le hb h.size)).trans (h.same b hb)⟩
theorem Stays.putObj {w W : World} (h : Stays w W) (l : Nat) (o : Obj) (hl : w.heap.size ≤ l) : Stays w (W.putObj l o) :=
  ⟨h.os, h.tape, ⟨h.later.output, h.later.drawn⟩, by rw [World.putObj_size]; exact h.size, fun b hb => (World.putObj_heap_other (by omega)).trans (h.same b hb)⟩
theorem Stays.setCell {w W : World} (h : Stays w W) (a : Addr) (v : Value) (hl : w.heap.size ≤ a.block) : Stays w (W.setCell a v) :=
  ⟨h.os, h.tape, ⟨h.later.output, h.later.drawn⟩, by simpa using h.size, fun b hb => (Below.heap_setCell W a v b (by omega)).trans (h.same b hb)⟩
theorem SlAt.evo {F : Nat → Prop} {n0 : Nat} {W W' : World} {m : Nat} {v : Value} (h : SlAt F n0 W m v) (hw : ∀ (b : Nat) (o : Obj), W.heap[b]? = some o → o.isCells = true → (F b ∨ n0 ≤ b) → W'.heap[b]? = W.heap[b]?) : SlAt F n0 W' m v := by
  obtain ⟨F', h1, h2⟩ := h
  refine ⟨F', fun b hb => ?_, h2.evo (fun _ h => h) fun b hb => ?_⟩
  · obtain ⟨q1, o, q2, q3⟩ := h1 b hb
    exact ⟨q1, o, (hw b o q2 q3 q1).trans q2, q3⟩
  · obtain ⟨q1, o, q2, q3⟩ := h1 b hb
    exact hw b o q2 q3 q1

theorem rd_slice {F : Nat → Prop} {W : World} {rows : List (List D)} {v : Value} (h : RD F W (.sl rows) v) : ∃ a n c, v = .slice a n c := by
  generalize hx : D.sl rows = x at h
  cases h <;> first | exact ⟨_, _, _, rfl⟩ | cases hx
/-- Only blocks of cells are read. -/
theorem rd_cells {F : Nat → Prop} {W : World} {ds : List Nat} {v : Value} (h : RD F W (.sl (ds.map encW)) v) : RD (fun b => F b ∧ ∃ o : Obj, W.heap[b]? = some o ∧ o.isCells = true) W (.sl (ds.map encW)) v := by
  generalize hx : D.sl (ds.map encW) = x at h
  cases h with
  | sl0 a cap => exact .sl0 a cap
  | sl b off cap k rows c hn hF hk hc hr =>
    injection hx with hx
    subst hx
    cases ds with
    | nil => exact .sl0 _ cap
    | cons y ds =>
      have hk1 : 1 = k := hk 0 (encW y) rfl
      subst hk1
      refine .sl b off cap 1 _ c hn ⟨hF, cells_of_cell (a := ⟨b, off + (0 * 1 + 0), none⟩) (hc 0 0 (by simp) (by omega))⟩ hk hc fun i row j x hi hj => ?_
      obtain ⟨z, _, rfl⟩ := List.mem_map.1 (List.mem_of_getElem? hi)
      have h := hr i _ j x hi hj
      rcases Nat.eq_zero_or_pos j with rfl | hj0
      · simp only [encW, List.getElem?_cons_zero, Option.some.injEq] at hj
        subst hj
        generalize c i 0 = u at h
        cases h
        exact .int _ _
      · simp only [encW] at hj
        rw [List.getElem?_eq_none (by simp; omega)] at hj
        cases hj
  | _ => cases hx

set_option maxRecDepth 100000 in
set_option maxHeartbeats 4000000 in
theorem p90 (gs : List Nat) (hne : gs ≠ []) (hlen : gs.length ≤ 61) (acc : Nat → Nat) (h0 : acc 0 = 0) (hs : ∀ (k g : Nat), gs[k]? = some g → acc (k + 1) = acc k + g) (hfit : ∀ k, k ≤ gs.length → nw (acc k) ≤ 500000)
    (hg : ∀ g, g ∈ gs → nw g ≤ 500000) : PD Tryz.prog 85 [.fn (.func 108) [.cp [.sl (gs.map fun g => [(Go.Aw.D.sl ((digs B64 (g)).map encW))])] 0], .sl [], .fn (.func 61) []] (.d (Go.Aw.D.sl ((digs B64 (acc gs.length)).map encW))) := by
  refine ⟨⟨Tryz.f85, by kernel_rfl, by kernel_rfl, rfl⟩, fun w cargs E F hHR hlt hkp hcr => ?_⟩
  obtain ⟨hsz, hv⟩ := hcr
  obtain ⟨x0, x1, x2, rfl⟩ : ∃ x0 x1 x2, cargs = #[x0, x1, x2] := arr3 hsz
  clear hsz
  · skip
    have v0 := hv 0 _ x0 rfl rfl
    have v1 := hv 1 _ x1 rfl rfl
    have v2 := hv 2 _ x2 rfl rfl
    clear hv
    simp only [ofD] at v0 v1 v2
    cases v0 with | d _ _ v0 => ?_
    cases v1 with | d _ _ v1 => ?_
    cases v2 with | d _ _ v2 => ?_
    cases v0 with | fn _ _ cs0 hs0 hr0 => ?_
    cases v2 with | fn _ _ cs2 hs2 hr2 => ?_
    obtain ⟨p0, rfl⟩ : ∃ p, cs0 = #[p] := arr1 hs0
    obtain rfl : cs2 = #[] := arr0 hs2
    clear hs0 hs2
    have vp := hr0 0 _ p0 rfl rfl
    clear hr0 hr2
    cases vp with | cp bb oo _ _ cc hFb hcb hrb => ?_
    have hb0 := hcb 0 (by simp)
    have hr0 := hrb 0 _ rfl
    clear hcb hrb
    generalize cc 0 = sv at hb0 hr0
    obtain ⟨a1, cap1, rfl⟩ : ∃ a cap, x1 = .slice a 0 cap := by
      cases v1 with
      | sl0 a cap => exact ⟨a, cap, rfl⟩
      | sl b off cap k rows c _ _ _ _ _ => exact ⟨_, cap, rfl⟩
    clear v1
    obtain ⟨b2, off2, cap2, c2, rfl, hF2, hc2, hx2⟩ : ∃ (b off cap : Nat) (c : Nat → Value), sv = .slice (some ⟨b, off, none⟩) gs.length cap ∧ F b ∧ (∀ j, j < gs.length → w.cell? ⟨b, off + j, none⟩ = some (c j)) ∧ ∀ (j g : Nat), gs[j]? = some g → RD F w (Go.Aw.D.sl ((digs B64 (g)).map encW)) (c j) := by
      generalize hxx : D.sl (gs.map fun g => [(Go.Aw.D.sl ((digs B64 (g)).map encW))]) = x at hr0
      cases hr0 with
      | sl0 a cap => exact absurd (by injection hxx with e; simpa using e) hne
      | sl b off cap k rows c hn hF hk hc hr =>
        injection hxx with e
        subst e
        have hk1 : k = 1 := by
          cases gs with
          | nil => exact absurd rfl hne
          | cons g gs => exact (hk 0 _ rfl).symm
        subst hk1
        refine ⟨b, off, cap, fun j => c j 0, by simp, hF, fun j hj => ?_, fun j g hj => hr j _ 0 _ (by rw [List.getElem?_map, hj]; rfl) rfl⟩
        have := hc j 0 (by simpa using hj) (by decide)
        simpa using this
      | _ => cases hxx
    refine callsIn_wide (n := 3) |>.1 ?_
    refine callsIn_of_wp_marks Tryz.func85 rfl trivial ?_ rfl
    simp only [Tryz.ntmps85, List.size_toArray, List.length_cons, List.length_nil, Nat.reduceAdd, Nat.reduceSub, Array.replicate_succ, Array.replicate_zero, List.push_toArray, List.append_toArray, List.nil_append, List.cons_append]
    gi_wp2
    refine wpIn_rangeV rfl (fun h => by cases h) (gf := 108) (lb := #[.pointer (some ⟨bb, oo + 0, none⟩)]) rfl trivial (enters_of Tryz.func108 (by kernel_rfl) rfl) (encs := fun k => #[c2 k]) (N := gs.length)
      (fun k W => (∃ v, W.cell? ⟨w.heap.size, 0, none⟩ = some v ∧ SlAt F (w.heap.size + 2) W (acc k) v) ∧ W.frozen? ⟨w.heap.size, 0, none⟩ = false ∧ W.cell? ⟨w.heap.size + 1, 0, none⟩ = some (.func (.func 61) #[] #[]) ∧ Stays w W ∧ w.heap.size + 2 ≤ W.heap.size)
      (fun k => rfl) ?iter ?putObj ?init
      (fun k => { tmps := #[.func (.func 108) #[] #[.pointer (some ⟨bb, oo + 0, none⟩)], .slice a1 0 cap1, .func (.func 61) #[] #[], undef, .pointer (some ⟨w.heap.size, 0, none⟩), .pointer (some ⟨w.heap.size + 1, 0, none⟩), .slice none 0 0, c2 k, .func (.func 108) #[] #[.pointer (some ⟨bb, oo + 0, none⟩)], c2 k, undef, undef, undef, undef, undef], defers := [] }) ?assign ?body ?done
    case iter =>
      intro l J W hJ hY hJ0
      refine Tryz.values1_in Fence.wide 2 trivial rfl (by omega) l bb (oo + 0) b2 off2 gs.length cap2 c2 (by omega) J (fun k W hJk => ?_) hY W hJ0
      obtain ⟨_, _, _, hst, _⟩ := hJ k W hJk
      exact ⟨(World.cell?_of_block (hst.same bb (hlt bb hFb))).trans hb0, fun j hj => (World.cell?_of_block (hst.same b2 (hlt b2 hF2))).trans (hc2 j hj)⟩
    case putObj =>
      rintro k W l o o' ⟨⟨v, hv1, hv2⟩, hfz, hstep, hst, hsz⟩ hl ho hnc
      have hcells : ∀ (b : Nat) (q : Obj), W.heap[b]? = some q → q.isCells = true → (W.putObj l o').heap[b]? = W.heap[b]? := fun b q hb hq => World.putObj_heap_other (fun e => by
        subst e; rw [ho] at hb; cases hb; rw [hnc] at hq; cases hq)
      have hcell : ∀ (a : Addr) (u : Value), W.cell? a = some u → (W.putObj l o').heap[a.block]? = W.heap[a.block]? := fun a u hu => by
        obtain ⟨q, h1, h2⟩ := cells_of_cell hu
        exact hcells _ q h1 h2
      simp only [World.size_alloc] at hl
      exact ⟨⟨v, (World.cell?_of_block (hcell _ _ hv1)).trans hv1, hv2.evo fun b q h1 h2 _ => hcells b q h1 h2⟩, (World.frozen?_of_block (hcell _ _ hv1)).trans hfz, (World.cell?_of_block (hcell _ _ hstep)).trans hstep, hst.putObj l o' (by omega), by rw [World.putObj_size]; exact hsz⟩
    case init =>
      intro r
      have b1 := Boxed.new w 75 (.slice a1 0 cap1)
      have b2 := Boxed.new (w.alloc (.cells #[.slice a1 0 cap1] 75)) 113 (.func (.func 61) #[] #[])
      rw [World.size_alloc] at b2
      have b1' := ((b1.alloc (.cells #[.func (.func 61) #[] #[]] 113)).alloc (.deferred (some []))).alloc (.loop r)
      have b2' := (b2.alloc (.deferred (some []))).alloc (.loop r)
      refine ⟨⟨_, b1'.cell, fun _ => False, fun _ h => h.elim, ?_⟩, b1'.frozen, b2'.cell, ((((Stays.refl w).alloc _).alloc _).alloc _).alloc _, by simp⟩
      rw [h0, digs_zero]
      exact .sl0 _ _
    case assign =>
      intro l k W K hK
      gi_wp2
      exact hK
    case body =>
      rintro l k W ⟨⟨v, hv1, hv2⟩, hfz, hstep, hst, hsz⟩ hk
      gi_wp2
      obtain ⟨F', hF', hrd⟩ := hv2
      obtain ⟨g, hgk⟩ : ∃ g, gs[k]? = some g := ⟨_, List.getElem?_eq_getElem hk⟩
      have h67 := p67 (acc k) g (hfit k (by omega)) (hg g (List.mem_of_getElem? hgk))
      rw [← hs k g hgk] at h67
      have hx1 : RD (fun b => F b ∨ F' b) W (Go.Aw.D.sl ((digs B64 (g)).map encW)) (c2 k) := (hx2 k g hgk).evo (fun _ h => .inl h) (fun b hb => hst.same b (hlt b hb))
      have hrd1 : RD (fun b => F b ∨ F' b) W (Go.Aw.D.sl ((digs B64 (acc k)).map encW)) v := hrd.evo (fun _ h => .inr h) (fun _ _ => rfl)
      refine ⟨trivial, (CallsIn.inRound l (callsIn_wide.2 (h67.2 W #[v, c2 k] [] (fun b => F b ∨ F' b) ⟨rfl, by simp, by simp, by simp⟩ (fun b hb => ?_) (by simp) ⟨rfl, ?_⟩))).mono ?_⟩
      · rcases hb with hb | hb
        · exact Nat.lt_of_lt_of_le (hlt b hb) hst.size
        · obtain ⟨_, o, ho, _⟩ := hF' b hb
          exact (Array.getElem?_eq_some_iff.1 ho).1
      · intro j x u hx hu
        match j with
        | 0 => simp [ofD] at hx hu; subst hx hu; exact .d _ _ hrd1
        | 1 => simp [ofD] at hx hu; subst hx hu; exact .d _ _ hx1
        | j + 2 => simp at hx
      rintro e W2 ⟨v2, x, H', E', F2, rfl, ⟨rfl, rfl⟩, hrel, hvr⟩
      have hsame : ∀ b, b < W.heap.size → W2.heap[b]? = W.heap[b]? := fun b hb => hrel.same b hb (by rintro ⟨id, e, blk, h1, _⟩; simp at h1)
      have hv1' : W2.cell? ⟨w.heap.size, 0, none⟩ = some v := (World.cell?_of_block (hsame _ (by show w.heap.size < _; omega))).trans hv1
      have hfz' : W2.frozen? ⟨w.heap.size, 0, none⟩ = false := (World.frozen?_of_block (hsame _ (by show w.heap.size < _; omega))).trans hfz
      have hstep' : W2.cell? ⟨w.heap.size + 1, 0, none⟩ = some (.func (.func 61) #[] #[]) := (World.cell?_of_block (hsame _ (by show w.heap.size + 1 < _; omega))).trans hstep
      have hrel_size : W.heap.size ≤ W2.heap.size := hrel.size
      have hst2 : Stays w W2 := ⟨hrel.os.trans hst.os, hrel.tape.trans hst.tape, (show Later W W2 from hrel.output).trans hst.later, Nat.le_trans hst.size hrel_size, fun b hb => (hsame b (Nat.lt_of_lt_of_le hb hst.size)).trans (hst.same b hb)⟩
      have hk2 : KeepsOthers W W2 := ⟨hrel_size, fun i o hi _ => (hsame i (Array.getElem?_eq_some_iff.1 hi).1).trans hi⟩
      have hsl : SlAt F (w.heap.size + 2) W2 (acc (k + 1)) v2 := by
        cases hvr with
        | d _ _ hd =>
          refine ⟨_, fun b hb => ⟨?_, hb.2⟩, rd_cells hd⟩
          rcases hrel.only b hb.1 with (h | h) | h | h
          · exact .inl h
          · exact (hF' b h).1
          · exact .inr (Nat.le_trans hsz h)
          · obtain ⟨id, e, blk, h1, _⟩ := h; simp at h1
      obtain ⟨a2, n2, cap3, rfl⟩ : ∃ a n c, v2 = .slice a n c := by
        obtain ⟨_, _, hd⟩ := hsl
        exact rd_slice hd
      clear hs hgk h67
      gi_wp2
      refine ⟨hk2.trans (KeepsOthers.setCell _ _ _), hsl.evo fun b o h1 h2 h3 => Below.heap_setCell _ _ _ b ?_, hst2.setCell _ _ (Nat.le_refl _), by omega⟩
      rcases h3 with h3 | h3
      · have := hlt b h3; show b ≠ w.heap.size; omega
      · show b ≠ w.heap.size; omega
    case done =>
      rintro D W hD ⟨⟨v, hv1, hv2⟩, hfz, hstep, hst, hsz⟩ hDd
      gi_wp2
      simp only [World.size_alloc] at hD
      refine ⟨by simp, .inl ⟨_, _, rfl, run_takeDeferred hDd, ?_⟩⟩
      obtain ⟨F', hF', hrd⟩ := hv2.evo (W' := W.putObj D (.deferred none)) (fun b o h1 h2 _ => World.putObj_heap_other (fun e => by subst e; rw [hDd] at h1; cases h1; cases h2))
      have hst' := hst.putObj D (.deferred none) (by omega)
      refine ⟨_, results_tmp rfl _ _ _, _, _, _, [], fun b => F b ∨ F' b, rfl, ⟨rfl, rfl⟩, ⟨hst'.os, hst'.tape, hst'.later, hst'.size, fun _ h => .inl h, ?_, fun b hb _ => hst'.same b hb, ?_, ⟨rfl, by simp, by simp, by simp⟩, by simp, by simp, ?_⟩, .d _ _ (hrd.evo (fun _ h => .inr h) (fun _ _ => rfl))⟩
      · rintro b (hb | hb)
        · exact .inl hb
        · rcases (hF' b hb).1 with h | h
          · exact .inl h
          · exact .inr (.inl (Nat.le_trans (Nat.le_add_right _ 2) h))
      · rintro b (hb | hb)
        · exact Nat.lt_of_lt_of_le (hlt b hb) hst'.size
        · obtain ⟨_, o, ho, _⟩ := hF' b hb
          exact (Array.getElem?_eq_some_iff.1 ho).1
      · rintro b n ⟨cs, t, h1, h2⟩
        exact ⟨cs, t, (hst'.same b (Array.getElem?_eq_some_iff.1 h1).1).trans h1, h2⟩

end Go.Aw

namespace Go.Aw
set_option linter.unusedSimpArgs false
set_option linter.unusedVariables false
open Go.RowKit Go.Proofs Go.Nt Go.Rl

theorem p91 (rows : List (List D)) : PC Tryz.prog 86 [.sl rows] fun x H => x = .fn (.func 108) [.ptr 0 0 0] ∧ H = [.cells [.d (.sl rows)]] := by
  refine pc_of (fn := Tryz.f86) [.tmp 2] (by kernel_rfl) rfl (by kernel_rfl) (Nat.le_of_ble_eq_true rfl) (by kernel_rfl) rfl ?_
  refine awp_seq ?_
  refine awpF_region ?_; intro K hK; simp only [push_cast, seval]; (try simp (disch := omega) only [wrapI]); (repeat ((with_reducible refine And.intro ?_ ?_); (focus (exact ob1)))); refine hK _ ?_; clear hK; clear K
  refine awp_seq ?_
  refine awpF_region ?_; intro K hK; simp only [push_cast, seval]; (try simp (disch := omega) only [wrapI]); (repeat ((with_reducible refine And.intro ?_ ?_); (focus (exact ob1)))); refine hK _ ?_; clear hK; clear K
  refine awp_ret ?_; (repeat (first | refine then_ret ?_ | refine inblock_ret ?_)); refine fin_of (by simp only [push_cast, seval]; first | done | rfl) ob1 ?_
  exact ⟨rfl, rfl⟩

theorem rowN_slice (g : Nat → Nat) {n a m : Nat} (h : a + m ≤ n) : ((rowN g (n + 1)).drop a).take (m + 1) = ((List.range (m + 1)).map fun j => g (a + j)).map fun g => [(Go.Aw.D.sl ((digs B64 (g)).map encW))] := by
  apply List.ext_getElem
  · simp [rowN]; omega
  · intro i h1 h2
    simp [rowN]

theorem sumN_le (p q n a m : Nat) : sumN (cs p q n) a m ≤ (p + q) ^ n := by
  have h1 : lo p q n (a + m) = lo p q n a + sumN (cs p q n) a m := sumF_split _ _ _
  have h2 := lo_le p q n (a + m)
  omega

theorem p52 (n a m f d : Nat) (hn : n ≤ 60) (hm : a + m ≤ n) (hf : f ≤ d) (hd : d ≤ 1000) : PD Tryz.prog 52 [.int .i64 n, .int .i64 a, .int .i64 ((a + m : Nat) : Int), .agg [.int .i64 f, .int .i64 d]] (.d (Go.Aw.D.sl ((digs B64 (sumN (cs f (d - f) n) a (m + 1))).map encW))) := by
  have h65 := p65 n f d hn hf hd
  have h91 := p91 (((rowN (cs f (d - f) n) (n + 1)).drop a).take (m + 1))
  have hw : IntKind.i64.wrap ((a : Int) + m + 1) = (a : Int) + m + 1 := wrapI _ (by omega)
  have ht : ((a : Int) + m + 1).toNat = a + m + 1 := by omega
  have hs : a + m + 1 - a = m + 1 := by omega
  have hrl : ∀ row : List D, row ∈ rowN (cs f (d - f) n) (n + 1) → row.length = 1 := fun r h => (rowN_row h).1
  have hfit : ∀ x, x ≤ d ^ n → nw x ≤ 500000 := fun x hx => Nat.le_trans (nw_mono hx) (Nat.le_trans (nw_pow hd hn) (by decide))
  have hdf : f + (d - f) = d := by omega
  have h90 := p90 ((List.range (m + 1)).map fun j => cs f (d - f) n (a + j)) (by simp) (by simp; omega) (fun k => sumN (cs f (d - f) n) a k) rfl (fun k g hk => by
    have hlt := (List.getElem?_eq_some_iff.1 hk).1
    simp only [List.length_map, List.length_range] at hlt
    simp [hlt] at hk
    rw [← hk]
    rfl) (fun k _ => hfit _ (by have := sumN_le f (d - f) n a k; rwa [hdf] at this)) (fun g hg => by
    obtain ⟨j, _, rfl⟩ := List.mem_map.1 hg
    exact hfit _ (by have := cs_le f (d - f) n (a + j); rwa [hdf] at this))
  rw [List.length_map, List.length_range, ← rowN_slice _ hm] at h90
  refine pd_of (fn := Tryz.f52) [.tmp 8] (by kernel_rfl) rfl (by kernel_rfl) (Nat.le_of_ble_eq_true rfl) (by kernel_rfl) rfl rfl ?_
  refine awp_seq ?_
  refine awpF_region ?_; intro K hK; simp only [push_cast, seval]; (try simp (disch := omega) only [wrapI]); (repeat ((with_reducible refine And.intro ?_ ?_); (focus (exact ob1)))); refine hK _ ?_; clear hK; clear K
  refine awp_seq ?_
  refine awpF_region ?_; intro K hK; simp only [push_cast, seval, rowN_len]
  (repeat ((with_reducible refine And.intro ?_ ?_); (focus (exact ob1))))
  refine CallK.pd h65 ?_
  simp only [push_cast, seval, rowN_len, hw, ht, hs]
  (repeat ((with_reducible refine And.intro ?_ ?_); (focus (exact ob1))))
  refine CallK.rel h91 ?_
  intro x' H' hR
  have hx' := hR.1
  have hH' := hR.2
  clear hR
  subst hx'
  subst hH'
  simp only [push_cast, seval]
  refine CallK.pd h90 ?_
  simp only [push_cast, seval]
  refine hK _ ?_; clear hK; clear K
  refine awp_ret ?_; (repeat (first | refine then_ret ?_ | refine inblock_ret ?_)); refine fin_of (by simp only [push_cast, seval]; first | done | rfl) ob1 ?_
  rfl
end Go.Aw

namespace Go.Aw
set_option linter.unusedSimpArgs false
set_option linter.unusedVariables false
open Go.RowKit Go.Proofs Go.Nt Go.Rl

def rateB (num den : Int) : Bool := decide (1 ≤ den ∧ den ≤ 1000 ∧ 0 ≤ num ∧ num ≤ den)
def fairB (n k : Int) : Bool := decide (0 ≤ k ∧ k ≤ n ∧ n ≤ 60)
theorem rateB_iff {num den : Int} : rateB num den = true ↔ 1 ≤ den ∧ den ≤ 1000 ∧ 0 ≤ num ∧ num ≤ den := by simp [rateB]
theorem fairB_iff {n k : Int} : fairB n k = true ↔ 0 ≤ k ∧ k ≤ n ∧ n ≤ 60 := by simp [fairB]

theorem bif_or (a b : Bool) : (bif a then true else b) = (a || b) := by cases a <;> rfl
theorem bif_and (a b : Bool) : (bif a then b else false) = (a && b) := by cases a <;> rfl

theorem p17 (num den : Int) : PD Tryz.prog 50 [.agg [.int .i64 num, .int .i64 den]] (.d (.int .i64 (if rateB num den then 0 else 2))) := by
  refine pd_of (fn := Tryz.f50) [.tmp 2] (by kernel_rfl) rfl (by kernel_rfl) (Nat.le_of_ble_eq_true rfl) (by kernel_rfl) rfl rfl ?_
  refine awp_seq ?_
  refine awpF_region ?_; intro K hK; simp only [push_cast, seval]; (try simp (disch := omega) only [wrapI]); (repeat ((with_reducible refine And.intro ?_ ?_); (focus (exact ob1)))); refine hK _ ?_; clear hK; clear K
  refine awp_seq ?_
  refine awp_seq ?_
  refine awpF_region ?_; intro K hK; simp only [push_cast, seval]; (try simp (disch := omega) only [wrapI]); (repeat ((with_reducible refine And.intro ?_ ?_); (focus (exact ob1)))); refine hK _ ?_; clear hK; clear K
  apply awp_cond; (focus (simp only [push_cast, seval]; rfl))
  · intro h1; (try simp only [decide_eq_true_eq, decide_eq_false_iff_not, Bool.not_eq_true', Bool.not_eq_false', Bool.and_eq_true, Bool.or_eq_true, Bool.not_eq_true] at h1)
    refine awp_seq ?_
    refine awpF_region ?_; intro K hK; simp only [push_cast, seval]; (try simp (disch := omega) only [wrapI]); (repeat ((with_reducible refine And.intro ?_ ?_); (focus (exact ob1)))); refine hK _ ?_; clear hK; clear K
    refine awp_ret ?_; (repeat (first | refine then_ret ?_ | refine inblock_ret ?_)); refine fin_of (by simp only [push_cast, seval]; first | done | rfl) ob1 ?_
    have : rateB num den = false := by
      simp only [bif_or, Bool.or_eq_true, decide_eq_true_eq] at h1
      simp only [rateB, decide_eq_false_iff_not]
      omega
    rw [this]; rfl
  · intro h1; (try simp only [decide_eq_true_eq, decide_eq_false_iff_not, Bool.not_eq_true', Bool.not_eq_false', Bool.and_eq_true, Bool.or_eq_true, Bool.not_eq_true] at h1)
    refine awp_skip ?_
    refine awp_seq ?_
    refine awpF_region ?_; intro K hK; simp only [push_cast, seval]; (try simp (disch := omega) only [wrapI]); (repeat ((with_reducible refine And.intro ?_ ?_); (focus (exact ob1)))); refine hK _ ?_; clear hK; clear K
    refine awp_ret ?_; (repeat (first | refine then_ret ?_ | refine inblock_ret ?_)); refine fin_of (by simp only [push_cast, seval]; first | done | rfl) ob1 ?_
    have : rateB num den = true := by
      simp only [bif_or, Bool.or_eq_false_iff, decide_eq_false_iff_not] at h1
      simp only [rateB, decide_eq_true_eq]
      omega
    rw [this]; rfl

theorem p51 (n k : Int) : PD Tryz.prog 51 [.int .i64 n, .int .i64 k] (.d (.bool (fairB n k))) := by
  refine pd_of (fn := Tryz.f51) [.tmp 4] (by kernel_rfl) rfl (by kernel_rfl) (Nat.le_of_ble_eq_true rfl) (by kernel_rfl) rfl rfl ?_
  refine awp_seq ?_
  refine awpF_region ?_; intro K hK; simp only [push_cast, seval]; (try simp (disch := omega) only [wrapI]); (repeat ((with_reducible refine And.intro ?_ ?_); (focus (exact ob1)))); refine hK _ ?_; clear hK; clear K
  refine awp_seq ?_
  refine awpF_region ?_; intro K hK; simp only [push_cast, seval]; (try simp (disch := omega) only [wrapI]); (repeat ((with_reducible refine And.intro ?_ ?_); (focus (exact ob1)))); refine hK _ ?_; clear hK; clear K
  refine awp_ret ?_; (repeat (first | refine then_ret ?_ | refine inblock_ret ?_)); refine fin_of (by simp only [push_cast, seval]; first | done | rfl) ob1 ?_
  simp only [bif_and, fairB, Bool.decide_and, Bool.and_assoc]

theorem p52l (n k rn rd : Int) (hr : rateB rn rd = true) (hf : fairB n k = true) : PD Tryz.prog 52 [.int .i64 n, .int .i64 0, .int .i64 k, .agg [.int .i64 rn, .int .i64 rd]] (.d (Go.Aw.D.sl ((digs B64 (lo rn.toNat (rd - rn).toNat n.toNat (k.toNat + 1))).map encW))) := by
  obtain ⟨h1, h2, h3, h4⟩ := rateB_iff.1 hr
  obtain ⟨h5, h6, h7⟩ := fairB_iff.1 hf
  have h := p52 n.toNat 0 k.toNat rn.toNat rd.toNat (by omega) (by omega) (by omega) (by omega)
  rw [Nat.zero_add, Int.toNat_of_nonneg (by omega), Int.toNat_of_nonneg (by omega), Int.toNat_of_nonneg (by omega), Int.toNat_of_nonneg (by omega), show rd.toNat - rn.toNat = (rd - rn).toNat by omega, sumN_zero] at h
  exact h

theorem p52u (n k rn rd : Int) (hr : rateB rn rd = true) (hf : fairB n k = true) : PD Tryz.prog 52 [.int .i64 n, .int .i64 k, .int .i64 n, .agg [.int .i64 rn, .int .i64 rd]] (.d (Go.Aw.D.sl ((digs B64 (sumN (cs rn.toNat (rd - rn).toNat n.toNat) k.toNat (n.toNat - k.toNat + 1))).map encW))) := by
  obtain ⟨h1, h2, h3, h4⟩ := rateB_iff.1 hr
  obtain ⟨h5, h6, h7⟩ := fairB_iff.1 hf
  have h := p52 n.toNat k.toNat (n.toNat - k.toNat) rn.toNat rd.toNat (by omega) (by omega) (by omega) (by omega)
  rw [show k.toNat + (n.toNat - k.toNat) = n.toNat by omega, Int.toNat_of_nonneg (by omega), Int.toNat_of_nonneg (by omega), Int.toNat_of_nonneg (by omega), Int.toNat_of_nonneg (by omega), show rd.toNat - rn.toNat = (rd - rn).toNat by omega] at h
  exact h

theorem p53i (n k rn rd : Int) (hr : rateB rn rd = true) (hf : fairB n k = true) : PD Tryz.prog 53 [.int .i64 rd, .int .i64 n] (.d (Go.Aw.D.sl ((digs B64 (rd.toNat ^ n.toNat)).map encW))) := by
  obtain ⟨h1, h2, h3, h4⟩ := rateB_iff.1 hr
  obtain ⟨h5, h6, h7⟩ := fairB_iff.1 hf
  have h := p53 rd.toNat n.toNat (by omega) (by omega)
  rw [Int.toNat_of_nonneg (by omega), Int.toNat_of_nonneg (by omega)] at h
  exact h

theorem p64 (part whole : Nat) (an ad : Int) (ha : rateB an ad = true) (hp : nw part ≤ 100) (hw : nw whole ≤ 100) : PD Tryz.prog 57 [(Go.Aw.D.sl ((digs B64 (part)).map encW)), (Go.Aw.D.sl ((digs B64 (whole)).map encW)), .agg [.int .i64 an, .int .i64 ad]] (.d (.bool (decide (part * ad.toNat ≤ whole * an.toNat)))) := by
  obtain ⟨h1, h2, h3, h4⟩ := rateB_iff.1 ha
  obtain ⟨n, rfl⟩ : ∃ n : Nat, an = n := ⟨an.toNat, by omega⟩
  obtain ⟨d, rfl⟩ : ∃ d : Nat, ad = d := ⟨ad.toNat, by omega⟩
  rw [Int.toNat_natCast, Int.toNat_natCast]
  have hn : IntKind.u64.wrap (n : Int) = n := uwn n (by omega)
  have hd : IntKind.u64.wrap (d : Int) = d := uwn d (by omega)
  have nwn : nw n ≤ 1 := digs_len (by decide) 1 n (by simp only [B64]; omega)
  have nwd : nw d ≤ 1 := digs_len (by decide) 1 d (by simp only [B64]; omega)
  have h56a := p56 part d (by omega) (by omega)
  have h56b := p56 whole n (by omega) (by omega)
  have h54 := p54 (part * d) (whole * n) (by have := nw_mul part d; omega) (by have := nw_mul whole n; omega)
  refine pd_of (fn := Tryz.f57) [.tmp 6] (by kernel_rfl) rfl (by kernel_rfl) (Nat.le_of_ble_eq_true rfl) (by kernel_rfl) rfl rfl ?_
  refine awp_seq ?_
  refine awpF_region ?_; intro K hK; simp only [push_cast, seval]; (try simp (disch := omega) only [wrapI]); (repeat ((with_reducible refine And.intro ?_ ?_); (focus (exact ob1)))); refine hK _ ?_; clear hK; clear K
  refine awp_seq ?_
  refine awpF_draw [0,1,2,3,5,6,7,8,4,9,10,11,12] (by kernel_rfl) (by kernel_rfl) rfl ?_; intro K hK; simp only [push_cast, seval, hn, hd]
  refine CallK.pd (h56a) ?_; simp only [push_cast, seval]; (try simp (disch := omega) only [wrapI]); (repeat ((with_reducible refine And.intro ?_ ?_); (focus (exact ob1))))
  refine CallK.pd (h56b) ?_; simp only [push_cast, seval]; (try simp (disch := omega) only [wrapI]); (repeat ((with_reducible refine And.intro ?_ ?_); (focus (exact ob1))))
  refine CallK.rel h54 ?_
  intro x' H' hR
  obtain ⟨c, hx', hH', hc1, hc2⟩ := hR
  subst hx'
  subst hH'
  simp only [push_cast, seval]
  refine hK _ ?_; clear hK; clear K
  refine awp_ret ?_; (repeat (first | refine then_ret ?_ | refine inblock_ret ?_)); refine fin_of (by simp only [push_cast, seval]; first | done | rfl) ob1 ?_
  have : decide (part * d ≤ whole * n) = decide (c ≤ 0) := by
    simp only [decide_eq_decide]
    omega
  rw [this]
end Go.Aw

namespace Go.Aw
set_option linter.unusedSimpArgs false
set_option linter.unusedVariables false
open Go.RowKit Go.Proofs Go.Nt Go.Rl

theorem rate_eq (n d : Int) : ((if rateB n d = true then (0 : Int) else 2) == 0) = rateB n d := by cases rateB n d <;> rfl
theorem rate_ne (n d : Int) : ((if rateB n d = true then (0 : Int) else 2) != 0) = !rateB n d := by cases rateB n d <;> rfl

/-- What 'Holds' answers. -/
def holdsB (n k rn rd an ad : Int) : Bool := rateB rn rd && rateB an ad && fairB n k && decide (lo rn.toNat (rd - rn).toNat n.toNat (k.toNat + 1) * ad.toNat ≤ rd.toNat ^ n.toNat * an.toNat)

theorem nw_lo {p q n k : Nat} (h : p + q ≤ 1000) (hn : n ≤ 60) : nw (lo p q n k) ≤ 100 := Nat.le_trans (nw_mono (lo_le p q n k)) (Nat.le_trans (nw_pow h hn) (by decide))
theorem nw_sumN {p q n a m : Nat} (h : p + q ≤ 1000) (hn : n ≤ 60) : nw (sumN (cs p q n) a m) ≤ 100 := Nat.le_trans (nw_mono (sumN_le p q n a m)) (Nat.le_trans (nw_pow h hn) (by decide))

theorem p23 (n k rn rd an ad : Int) : PD Tryz.prog 36 [.int .i64 n, .int .i64 k, .agg [.int .i64 rn, .int .i64 rd], .agg [.int .i64 an, .int .i64 ad]] (.d (.bool (holdsB n k rn rd an ad))) := by
  have key : rateB rn rd = true → fairB n k = true → nw (lo rn.toNat (rd - rn).toNat n.toNat (k.toNat + 1)) ≤ 100 ∧ nw (rd.toNat ^ n.toNat) ≤ 100 := fun h1 h2 => by
    obtain ⟨a1, a2, a3, a4⟩ := rateB_iff.1 h1
    obtain ⟨b1, b2, b3⟩ := fairB_iff.1 h2
    exact ⟨nw_lo (by omega) (by omega), Nat.le_trans (nw_pow (by omega) (by omega)) (by decide)⟩
  refine pd_of (fn := Tryz.f36) [.tmp 8] (by kernel_rfl) rfl (by kernel_rfl) (Nat.le_of_ble_eq_true rfl) (by kernel_rfl) rfl rfl ?_
  refine awp_seq ?_
  refine awpF_region ?_; intro K hK; simp only [push_cast, seval]; (try simp (disch := omega) only [wrapI]); (repeat ((with_reducible refine And.intro ?_ ?_); (focus (exact ob1)))); refine hK _ ?_; clear hK; clear K
  refine awp_seq ?_
  refine awpF_draw [0,1,2,3,4,5,6,7,8,9,10,11,12,13,14,15,16,18,19,20,22,17,21,23,24,25] (by kernel_rfl) (by kernel_rfl) rfl ?_; intro K hK; simp only [push_cast, seval]
  refine CallK.pd (p17 rn rd) ?_
  simp only [push_cast, seval, rate_eq, bif_and]
  refine CallK.pg (fun _ => p17 an ad) ?_
  simp only [push_cast, seval, rate_eq, bif_and]
  refine CallK.pg (fun _ => p51 n k) ?_
  simp only [push_cast, seval, bif_and]
  refine CallK.pg (fun h => p52l n k rn rd (by simp only [Bool.and_eq_true] at h; exact h.1.1) (by simp only [Bool.and_eq_true] at h; exact h.2)) ?_
  simp only [push_cast, seval, bif_and]
  refine CallK.pg (fun h => p53i n k rn rd (by simp only [Bool.and_eq_true] at h; exact h.1.1) (by simp only [Bool.and_eq_true] at h; exact h.2)) ?_
  simp only [push_cast, seval, bif_and]
  refine CallK.pg (fun h => p64 _ _ an ad (by simp only [Bool.and_eq_true] at h; exact h.1.2) (by simp only [Bool.and_eq_true] at h; exact (key h.1.1 h.2).1) (by simp only [Bool.and_eq_true] at h; exact (key h.1.1 h.2).2)) ?_
  simp only [push_cast, seval, bif_and]
  (repeat ((with_reducible refine And.intro ?_ ?_); (focus (exact ob1))))
  refine hK _ ?_; clear hK; clear K
  refine awp_ret ?_; (repeat (first | refine then_ret ?_ | refine inblock_ret ?_)); refine fin_of (by simp only [push_cast, seval]; first | done | rfl) ob1 ?_
  rfl

/-- What 'Fails' answers. -/
def failsB (n k rn rd bn bd : Int) : Bool := rateB rn rd && rateB bn bd && fairB n k && decide (sumN (cs rn.toNat (rd - rn).toNat n.toNat) k.toNat (n.toNat - k.toNat + 1) * bd.toNat ≤ rd.toNat ^ n.toNat * bn.toNat)

theorem p26 (n k rn rd an ad : Int) : PD Tryz.prog 26 [.int .i64 n, .int .i64 k, .agg [.int .i64 rn, .int .i64 rd], .agg [.int .i64 an, .int .i64 ad]] (.d (.bool (failsB n k rn rd an ad))) := by
  have key : rateB rn rd = true → fairB n k = true → nw (sumN (cs rn.toNat (rd - rn).toNat n.toNat) k.toNat (n.toNat - k.toNat + 1)) ≤ 100 ∧ nw (rd.toNat ^ n.toNat) ≤ 100 := fun h1 h2 => by
    obtain ⟨a1, a2, a3, a4⟩ := rateB_iff.1 h1
    obtain ⟨b1, b2, b3⟩ := fairB_iff.1 h2
    exact ⟨nw_sumN (by omega) (by omega), Nat.le_trans (nw_pow (by omega) (by omega)) (by decide)⟩
  refine pd_of (fn := Tryz.f26) [.tmp 8] (by kernel_rfl) rfl (by kernel_rfl) (Nat.le_of_ble_eq_true rfl) (by kernel_rfl) rfl rfl ?_
  refine awp_seq ?_
  refine awpF_region ?_; intro K hK; simp only [push_cast, seval]; (try simp (disch := omega) only [wrapI]); (repeat ((with_reducible refine And.intro ?_ ?_); (focus (exact ob1)))); refine hK _ ?_; clear hK; clear K
  refine awp_seq ?_
  refine awpF_draw [0,1,2,3,4,5,6,7,8,9,10,11,12,13,14,15,16,17,19,20,21,23,18,22,24,25,26] (by kernel_rfl) (by kernel_rfl) rfl ?_; intro K hK; simp only [push_cast, seval]
  refine CallK.pd (p17 rn rd) ?_
  simp only [push_cast, seval, rate_eq, bif_and]
  refine CallK.pg (fun _ => p17 an ad) ?_
  simp only [push_cast, seval, rate_eq, bif_and]
  refine CallK.pg (fun _ => p51 n k) ?_
  simp only [push_cast, seval, bif_and]
  refine CallK.pg (fun h => p52u n k rn rd (by simp only [Bool.and_eq_true] at h; exact h.1.1) (by simp only [Bool.and_eq_true] at h; exact h.2)) ?_
  simp only [push_cast, seval, bif_and]
  refine CallK.pg (fun h => p53i n k rn rd (by simp only [Bool.and_eq_true] at h; exact h.1.1) (by simp only [Bool.and_eq_true] at h; exact h.2)) ?_
  simp only [push_cast, seval, bif_and]
  refine CallK.pg (fun h => p64 _ _ an ad (by simp only [Bool.and_eq_true] at h; exact h.1.2) (by simp only [Bool.and_eq_true] at h; exact (key h.1.1 h.2).1) (by simp only [Bool.and_eq_true] at h; exact (key h.1.1 h.2).2)) ?_
  simp only [push_cast, seval, bif_and]
  (repeat ((with_reducible refine And.intro ?_ ?_); (focus (exact ob1))))
  refine hK _ ?_; clear hK; clear K
  refine awp_ret ?_; (repeat (first | refine then_ret ?_ | refine inblock_ret ?_)); refine fin_of (by simp only [push_cast, seval]; first | done | rfl) ob1 ?_
  rfl
end Go.Aw
