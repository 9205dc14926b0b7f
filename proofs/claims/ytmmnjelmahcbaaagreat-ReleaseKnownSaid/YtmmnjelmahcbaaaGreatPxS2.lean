/-
  slices.Values, Collect, Sorted over a row of numbers, and slices.Sort of an own row. Conditions: lengths that fit.
-/
import Derived.RangeFuncLeaves
import Derived.Test.YtmmnjelmahcbaaaGreatPxS0
import Derived.Test.YtmmnjelmahcbaaaGreatPxS1
namespace Go.Aw
set_option linter.unusedSimpArgs false
set_option linter.unusedVariables false
open Go.RowKit Go.Proofs Go.Shelf Go.Sort
attribute [local go_sem] Oper.semAt_some

set_option maxRecDepth 100000 in
set_option maxHeartbeats 4000000 in
/-- The iterator over a row: for every body that keeps what it reads. -/
theorem values109_in (F : Fence) (n : Nat) (h7 : F.fn 101) (hro : F.round = none) (hn : 1 ≤ n) (l box o b off len cap : Nat) (ad : Option Addr) (c : Nat → Value) (hreach : len * 8 ≤ 140737488351232) (J : Nat → World → Prop)
    (hR : ∀ k W, J k W → W.cell? ⟨box, o, none⟩ = some (.slice ad len cap) ∧ (0 < len → ad = some ⟨b, off, none⟩) ∧ ∀ j, j < len → W.cell? ⟨b, off + j, none⟩ = some (c j))
    (hY : ∀ k W, J k W → k < len → YieldAt F (n - 1) Tryz.prog l #[c k] W fun e W' => e = .returned (.bool true) ∧ J (k + 1) W')
    (W : World) (h0 : J 0 W) :
    CallsIn F n Tryz.prog 101 #[.func (.yield l) #[] #[], .pointer (some ⟨box, o, none⟩)] W fun e W' => (∃ v, e = .returned v) ∧ J len W' := by
  refine callsIn_of_wp Tryz.func101 rfl h7 ?_ hro
  simp only [Tryz.ntmps101, List.size_toArray, List.length_cons, List.length_nil, Nat.reduceAdd, Nat.reduceSub, Array.replicate_succ, Array.replicate_zero, List.push_toArray, List.append_toArray, List.nil_append, List.cons_append]
  obtain ⟨hBs, had, hcs⟩ := hR 0 W h0
  gi_wp2
  gi_loopw [7] (fun i wr => ∃ k : Nat, k ≤ len ∧ i = .int .i64 k ∧ J k wr)
    (fun i _ => len - (Proofs.intOf i).toNat)
  case atStart => exact ⟨0, Nat.zero_le _, rfl, h0⟩
  case round =>
    obtain ⟨k, hk, rfl, hJs⟩ := hrel
    obtain ⟨hBs', _, hcs'⟩ := hR k wr hJs
    by_cases hlt : k < len
    · obtain ⟨fn, tmps, assign, body, hy, hRd⟩ := hY _ wr hJs hlt
      have hcx' := hcs' k hlt
      obtain rfl := had (by omega)
      gi_wp2
      refine hRd.mono ?_
      rintro e W3 ⟨rfl, hJ3⟩
      gi_wp2
      go_roundw
      case rel => exact ⟨k + 1, by omega, by simp, hJ3⟩
      case measure => simp [Proofs.intOf]; omega
    · obtain rfl : k = len := by omega
      gi_wp2
      go_end0
      exact ⟨⟨_, rfl⟩, hJs⟩

theorem type3_info : (Tryz.prog.info? 3).map (fun i => (i.zero, i.size, i.bytes)) = some (some (.int .i64 0), 1, 8) := by kernel_rfl

set_option maxRecDepth 100000 in
set_option maxHeartbeats 4000000 in
/-- slices.AppendSeq(nil, slices.Values(xs)): an own copy. -/
theorem as133 (xs : List Int) (hlen : xs.length ≤ 1000000) (w : World) (bb oo b2 off2 cap2 : Nat) (ad : Option Addr) (hbb : bb < w.heap.size) (hb2 : b2 < w.heap.size)
    (hb0 : w.cell? ⟨bb, oo, none⟩ = some (.slice ad xs.length cap2)) (had : 0 < xs.length → ad = some ⟨b2, off2, none⟩) (hc2 : ∀ j (hj : j < xs.length), w.cell? ⟨b2, off2 + j, none⟩ = some (.int .i64 xs[j])) :
    CallsIn Fence.wide 3 Tryz.prog 124 #[.slice none 0 0, .func (.func 101) #[] #[.pointer (some ⟨bb, oo, none⟩)]] w fun e W => ∃ v, e = .returned v ∧ Stays w W ∧ W.ownsRow w.heap.size 3 1 v xs.length (xs.map (Value.int .i64)) := by
  obtain ⟨i0, hi, hz0, hz1, hz2⟩ := info_parts type3_info
  refine callsIn_of_wp_marks Tryz.func124 rfl trivial ?_ rfl
  simp only [Tryz.ntmps124, List.size_toArray, List.length_cons, List.length_nil, Nat.reduceAdd, Nat.reduceSub, Array.replicate_succ, Array.replicate_zero, List.push_toArray, List.append_toArray, List.nil_append, List.cons_append]
  gi_wp2
  refine wpIn_rangeV rfl (fun h => by cases h) (gf := 101) (lb := #[.pointer (some ⟨bb, oo, none⟩)]) rfl trivial (enters_of Tryz.func101 (by kernel_rfl) rfl) (encs := fun k => #[.int .i64 (xs.getD k 0)]) (N := xs.length)
    (fun k W => (∃ v, Boxed W w.heap.size 34 v ∧ W.ownsRow w.heap.size 3 1 v k ((xs.take k).map (Value.int .i64))) ∧ Stays w W ∧ w.heap.size + 1 ≤ W.heap.size)
    (fun k => rfl) ?iter ?putObj ?init
    (fun k => { tmps := #[.slice none 0 0, .func (.func 101) #[] #[.pointer (some ⟨bb, oo, none⟩)], .pointer (some ⟨w.heap.size, 0, none⟩), undef, .slice none 0 0, .int .i64 (xs.getD k 0), .func (.func 101) #[] #[.pointer (some ⟨bb, oo, none⟩)], .int .i64 (xs.getD k 0), undef, undef, undef, undef, undef], defers := [] }) ?assign ?body ?done
  case iter =>
    intro l J W hJ hY hJ0
    refine values109_in Fence.wide 2 trivial rfl (by omega) l bb oo b2 off2 xs.length cap2 ad (fun k => .int .i64 (xs.getD k 0)) (by omega) J (fun k W hJk => ?_) hY W hJ0
    obtain ⟨_, hst, _⟩ := hJ k W hJk
    refine ⟨(World.cell?_of_block (hst.same bb hbb)).trans hb0, had, fun j hj => (World.cell?_of_block (hst.same b2 hb2)).trans ?_⟩
    rw [hc2 j hj]
    simp [hj]
  case putObj =>
    rintro k W l o o' ⟨⟨v, hv1, hv2⟩, hst, hsz⟩ hl ho hnc
    simp only [World.size_alloc] at hl
    exact ⟨⟨v, by
      have : (W.putObj l o').heap[w.heap.size]? = W.heap[w.heap.size]? := World.putObj_heap_other (by omega)
      exact this.trans hv1, ownsRow_putObj hv2 o' ho hnc⟩, hst.putObj l o' (by omega), by rw [World.putObj_size]; exact hsz⟩
  case init =>
    intro r
    have b1 := ((Boxed.new w 34 (.slice none 0 0)).alloc (.deferred (some []))).alloc (.loop r)
    exact ⟨⟨_, b1, rfl, .inl ⟨rfl, rfl⟩⟩, (((Stays.refl w).alloc _).alloc _).alloc _, by simp⟩
  case assign =>
    intro l k W K hK
    gi_wp2
    exact hK
  case body =>
    rintro l k W ⟨⟨v, hv1, hv2⟩, hst, hsz⟩ hk
    have hcv := hv1.cell
    have hfv := hv1.frozen
    have hxk : xs.getD k 0 = xs[k] := by simp [hk]
    have htk : (xs.take k).map (Value.int .i64) ++ [.int .i64 (xs.getD k 0)] = (xs.take (k + 1)).map (Value.int .i64) := by
      rw [← List.take_append_getElem hk, List.map_append, hxk]; rfl
    generalize xs.getD k 0 = x at htk ⊢
    clear hxk
    gi_wp2_with (first
      | (gi_at_builtin; refine wpListIn_append_ownD _ rfl _ _ 34 rfl w.heap.size 3 i0 (.int .i64 0) 1 8 (by kernel_rfl) hi hz0 hz1 hz2 rfl (by decide) _ _ _ rfl (hv2.alloc _) ⟨W.heap.size, 0, none⟩ 1 1 [.int .i64 x] rfl rfl (cell_one_new _ _ _) (by simp [Value.oneCell']) (by simp only [maxLen]; omega) (by omega) (by simp; omega) ?_; intro v' w3 hown' hg3 hd3
         obtain ⟨hb3, hb4, hr4, hk4, hbel⟩ := Boxed.appended hv1 (by decide) hv2 (by omega) (Nat.le_refl _) hown' hg3
         have hc3 := hb3.cell
         have hf3 := hb3.frozen
         obtain ⟨g', cap', rfl⟩ := ownsRow_succ hown'
         go_frame)
      | gi_in)
    have hsz3 : W.heap.size ≤ w3.heap.size := by
      have := hbel.size
      have := hg3.size
      simp only [World.size_alloc] at this
      omega
    refine ⟨⟨_, hb4, by rw [← List.map_take, ← htk]; exact hr4⟩, ⟨hbel.os.trans hst.os, hbel.tape.trans hst.tape, ⟨hbel.output.trans hst.later.output, Nat.le_trans hst.later.drawn hd3⟩, by simpa using Nat.le_trans hst.size hsz3, fun b hb => (hbel.block b hb).trans (hst.same b hb)⟩, by omega⟩
  case done =>
    rintro D W hD ⟨⟨v, hv1, hv2⟩, hst, hsz⟩ hDd
    have hcv := hv1.cell
    have hfv := hv1.frozen
    rw [List.take_length] at hv2
    gi_wp2
    simp only [World.size_alloc] at hD
    refine ⟨by simp, .inl ⟨_, _, rfl, run_takeDeferred hDd, ?_⟩⟩
    exact ⟨_, results_tmp rfl _ _ _, v, rfl, hst.putObj D (.deferred none) (by omega), ownsRow_putObj hv2 _ hDd rfl⟩

set_option maxRecDepth 100000 in
set_option maxHeartbeats 4000000 in
/-- slices.Collect(slices.Values(xs)): an own copy. -/
theorem p107 (xs : List Int) (hlen : xs.length ≤ 1000000) : PC Tryz.prog 99 [.fn (.func 101) [.cp [.sl (xs.map encI)] 0]] fun x H => x = .ref 0 0 xs.length ∧ H = [.data 1 (xs.map encI)] := by
  refine ⟨⟨Tryz.f99, by kernel_rfl, by kernel_rfl, rfl⟩, fun w cargs E F hHR hlt hkp hcr => ?_⟩
  obtain ⟨hsz, hv⟩ := hcr
  obtain ⟨x1, rfl⟩ : ∃ x1, cargs = #[x1] := arr1 hsz
  clear hsz
  have v1 := hv 0 _ x1 rfl rfl
  clear hv
  simp only [ofD] at v1
  cases v1 with | d _ _ v1 => ?_
  cases v1 with | fn _ _ cs1 hs1 hr1 => ?_
  obtain ⟨p0, rfl⟩ : ∃ p, cs1 = #[p] := arr1 hs1
  clear hs1
  have vp := hr1 0 _ p0 rfl rfl
  clear hr1
  cases vp with | cp bb oo _ _ cc hFb hcb hrb => ?_
  have hb0 := hcb 0 (by simp)
  have hr0 := hrb 0 _ rfl
  clear hcb hrb
  generalize cc 0 = sv at hb0 hr0
  obtain ⟨ad, cap, b2, off2, rfl, had, hb2, hc2⟩ := sl_ints hr0 bb (hlt bb hFb) hlt
  have hAS := as133 xs hlen w bb oo b2 off2 cap ad (hlt bb hFb) hb2 hb0 had hc2
  have hEN : ∀ args w, (callFunc 124 args).run Tryz.prog w = .ok (.enter 124 args) w := enters_of Tryz.func124 (by kernel_rfl) rfl
  refine callsIn_wide (n := 4) |>.1 ?_
  refine callsIn_of_wp Tryz.func99 rfl trivial ?_ rfl
  simp only [Tryz.ntmps99, List.size_toArray, List.length_cons, List.length_nil, Nat.reduceAdd, Nat.reduceSub, Array.replicate_succ, Array.replicate_zero, List.push_toArray, List.append_toArray, List.nil_append, List.cons_append]
  gi_wp2
  refine ⟨trivial, hAS.mono ?_⟩
  rintro e W ⟨v, rfl, hst, hrow⟩
  gi_wp2
  go_ret
  obtain ⟨E', hrel, hvr⟩ := data_back (E := E) hlt hst hrow
  exact ⟨_, _, _, E', F, rfl, ⟨rfl, rfl⟩, hrel, hvr⟩

theorem p82 (rows : List (List D)) : PC Tryz.prog 70 [.sl rows] fun x H => x = .fn (.func 101) [.ptr 0 0 0] ∧ H = [.cells [.d (.sl rows)]] := by
  refine pc_of (fn := Tryz.f70) [.tmp 2] (by kernel_rfl) rfl (by kernel_rfl) (Nat.le_of_ble_eq_true rfl) (by kernel_rfl) rfl ?_
  refine awp_seq ?_
  refine awpF_region ?_; intro K hK; simp only [push_cast, seval]; (try simp (disch := omega) only [wrapI]); (repeat ((with_reducible refine And.intro ?_ ?_); (focus (exact ob1)))); refine hK _ ?_; clear hK; clear K
  refine awp_seq ?_
  refine awpF_region ?_; intro K hK; simp only [push_cast, seval]; (try simp (disch := omega) only [wrapI]); (repeat ((with_reducible refine And.intro ?_ ?_); (focus (exact ob1)))); refine hK _ ?_; clear hK; clear K
  refine awp_ret ?_; (repeat (first | refine then_ret ?_ | refine inblock_ret ?_)); refine fin_of (by simp only [push_cast, seval]; first | done | rfl) ob1 ?_
  exact ⟨rfl, rfl⟩

theorem a108 (zs : List Int) (hz : zs.length ≤ 1000000) : AC Tryz.prog 100 [.ref 0 0 zs.length] [.data 1 (zs.map encI)] [0] fun x H => x = .tup [] ∧ H = [.data 1 ((sortI zs).map encI)] := by
  refine ac_sort (f := 100) ⟨Tryz.f100, by kernel_rfl, by kernel_rfl, rfl⟩ [] rfl sortI (fun zs => by simp [sortI]) ?_ ?_ zs (by omega)
  · intro F ex blk off cap zs w hex _ _ hH hb hl
    obtain rfl : ex = #[] := Array.size_eq_zero_iff.1 hex.1
    exact AnyM.slices_Sort_int Tryz.sortB blk off cap zs w hH hb hl
  · intro F ex p cap w hex
    obtain rfl : ex = #[] := Array.size_eq_zero_iff.1 hex.1
    exact AnyM.slices_Sort_int_none Tryz.sortB p cap w

theorem p81 (xs : List Int) (hlen : xs.length ≤ 1000000) : PD Tryz.prog 69 [.fn (.func 101) [.cp [.sl (xs.map encI)] 0]] (.d (.sl ((sortI xs).map encI))) := by
  have h1 := p107 xs hlen
  have h2 := a108 xs hlen
  show PD Tryz.prog 69 _ (ofD (.sl ((sortI xs).map encI)))
  refine pdd_of (fn := Tryz.f69) [.tmp 2] (by kernel_rfl) rfl (by kernel_rfl) (Nat.le_of_ble_eq_true rfl) (by kernel_rfl) rfl ?_
  refine awp_seq ?_
  refine awpF_region ?_; intro K hK; simp only [push_cast, seval]; (try simp (disch := omega) only [wrapI]); (repeat ((with_reducible refine And.intro ?_ ?_); (focus (exact ob1)))); refine hK _ ?_; clear hK; clear K
  refine awp_seq ?_
  refine awpF_region ?_; intro K hK; simp only [push_cast, seval]
  refine CallK.rel h1 ?_
  rintro _ _ ⟨rfl, rfl⟩
  simp only [push_cast, seval]
  refine hK _ ?_; clear hK; clear K
  refine awp_seq ?_
  refine awpF_regionH [1] ?_; intro K hK; simp only [push_cast, seval, List.zipIdx_cons, List.zipIdx_nil]
  refine HeapK.mk _ h2 ?_
  intro x' H' hR
  obtain ⟨hx', hH'⟩ := hR
  subst hx'
  subst hH'
  simp only [push_cast, seval]
  refine hK _ ?_; clear hK; clear K
  refine awp_seq ?_
  refine awpF_region ?_; intro K hK; simp only [push_cast, seval]; (try simp (disch := omega) only [wrapI]); (repeat ((with_reducible refine And.intro ?_ ?_); (focus (exact ob1)))); refine hK _ ?_; clear hK; clear K
  refine awp_ret ?_; (repeat (first | refine then_ret ?_ | refine inblock_ret ?_)); refine fin_of (by simp only [push_cast, seval]; first | done | rfl) ob1 ?_
  have := Deep.data (H := [Blk.data 1 ((sortI xs).map encI)]) 0 0 xs.length 1 ((sortI xs).map encI) rfl (by simp [sortI])
  rw [List.drop_zero, List.take_of_length_le (by simp [sortI])] at this
  exact this
end Go.Aw
