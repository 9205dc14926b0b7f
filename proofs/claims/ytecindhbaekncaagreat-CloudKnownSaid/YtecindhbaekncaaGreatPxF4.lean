/-
  Contracts of container/heap over an own heap of far points. Conditions: lengths that fit.
-/
import Derived.Test.YtecindhbaekncaaGreatPxAwIv
import Derived.Test.YtecindhbaekncaaGreatPkT
import Derived.Test.YtecindhbaekncaaGreatPxF2
import Derived.Test.YtecindhbaekncaaGreatPcC
import Derived.Test.YtecindhbaekncaaGreatPcD
namespace Go.Aw
set_option linter.unusedSimpArgs false
set_option linter.unusedVariables false
open Go.RowKit Go.Proofs Go.Heap

theorem AC.shrink {P : Program} {f : FuncId} {args : List V} {H : List Blk} {kp : List Nat} {R R' : V → List Blk → Prop} (n : Nat) (h : AC P f args H kp R) (hk : ∀ i, i ∈ kp → i < n)
    (hR : ∀ x H', R x H' → ∃ H1 X, H' = H1 ++ X ∧ H1.length = n ∧ V.bel n x = true ∧ belHeap n H1 = true ∧ R' x H1) : AC P f args H kp R' := by
  refine ⟨h.1, fun w cargs E F h1 h2 h3 h4 => (h.2 w cargs E F h1 h2 h3 h4).mono ?_⟩
  rintro e w' ⟨v, x, H', E', F', q1, q2, q3, q4⟩
  obtain ⟨H1, X, rfl, r1, r2, r3, r4⟩ := hR x H' q2
  have hs : Sim ⟨w, F, own E H, E, kp, []⟩ ⟨[], H1 ++ X⟩ { tmps := #[], defers := [] } w' E' F' := ⟨q3, rfl, fun i x hx => by simp [tget] at hx⟩
  have hle : Le kp ⟨[], H1⟩ ⟨[], H1 ++ X⟩ := ⟨trivial, ⟨X, rfl⟩, rfl, by rw [r1]; exact r3, fun i hi => by rw [r1]; exact hk i hi⟩
  have hs' := le_sim (B := ⟨w, F, own E H, E, kp, []⟩) hle hs
  refine ⟨v, x, H1, E'.take H1.length, F', q1, r4, hs'.rel, ?_⟩
  exact q4.evo (ok := fun i => i < n) ⟨fun _ h => h, fun _ _ => rfl, fun i e hi h => by rw [List.getElem?_take_of_lt (by omega)]; exact h, fun _ _ h => h⟩ (bel_has n x r2)

abbrev Fa := Nat × Int
def encF (x : Fa) : List D := [.int .i64 (x.1 : Int), .int .i64 x.2]
def befF (x y : Fa) : Prop := x.2 < y.2 ∨ x.2 = y.2 ∧ x.1 < y.1
instance : DecidableRel befF := fun x y => by unfold befF; infer_instance
theorem befF_ord : Ord befF where
  irr x := by unfold befF; omega
  tr x y z h1 h2 := by unfold befF at *; omega
  tot x y h1 h2 := by
    unfold befF at *
    exact Prod.ext (by omega) (by omega)
theorem p172 (x y : Fa) : PD Tryz.prog 124 [.agg (encF x), .agg (encF y)] (.d (.bool (decide (befF x y)))) := by
  have h68 := p68 [cmp3 x.2 y.2, cmp3 x.1 y.1] (by simp)
  simp only [List.map_cons, List.map_nil, encI] at h68
  simp only [encF]
  refine pd_of (fn := Tryz.f124) [.tmp 4] (by kernel_rfl) rfl (by kernel_rfl) (Nat.le_of_ble_eq_true rfl) (by kernel_rfl) rfl rfl ?_
  refine awp_seq ?_
  refine awpF_region ?_; intro K hK; simp only [push_cast, seval]; (try simp (disch := omega) only [wrapI]); (repeat ((with_reducible refine And.intro ?_ ?_); (focus (exact ob1)))); refine hK _ ?_; clear hK; clear K
  refine awp_seq ?_
  refine awpF_draw [0,1,2,3,5,6,7,8,4,9,10,11,12,13] (by kernel_rfl) (by kernel_rfl) rfl ?_; intro K hK; simp only [push_cast, seval]
  (repeat ((with_reducible refine And.intro ?_ ?_); (focus (exact ob1))))
  refine CallK.pd (p69 _ _) ?_; simp only [push_cast, seval]; (try simp (disch := omega) only [wrapI]); (repeat ((with_reducible refine And.intro ?_ ?_); (focus (exact ob1))))
  refine CallK.pd (p87 _ _) ?_; simp only [push_cast, seval]; (try simp (disch := omega) only [wrapI]); (repeat ((with_reducible refine And.intro ?_ ?_); (focus (exact ob1))))
  refine CallK.pd (h68) ?_; simp only [push_cast, seval]; (try simp (disch := omega) only [wrapI]); (repeat ((with_reducible refine And.intro ?_ ?_); (focus (exact ob1))))
  refine hK _ ?_; clear hK; clear K
  refine awp_ret ?_; (repeat (first | refine then_ret ?_ | refine inblock_ret ?_)); refine fin_of (by simp only [push_cast, seval]; first | done | rfl) ob1 ?_
  congr 2
  rw [decide_eq_decide]
  unfold befF cor cor cor cmp3
  by_cases h1 : x.2 < y.2
  · simp [h1]
  · by_cases h2 : x.2 > y.2
    · have h3 : ¬ x.2 = y.2 := by omega
      simp [h1, h2, h3]
    · have h3 : x.2 = y.2 := by omega
      by_cases h4 : x.1 < y.1
      · simp [h3, h4]
      · by_cases h5 : (x.1 : Int) > y.1
        · simp [h3, h4, h5]
        · simp [h3, h4, h5]
def HF (l : List Fa) (X : List (List D)) : List Blk := [.cells [.ref 1 0 l.length], .data 2 (l.map encF ++ X)]
theorem p78 (id n : Nat) (H : List Blk) : AC Tryz.prog 36 [.ref id 0 n] H (List.range H.length) fun x H' => x = .d (.int .i64 n) ∧ H' = H := by
  refine ac_ofF (fn := Tryz.f36) [.tmp 2] (by kernel_rfl) rfl (by kernel_rfl) (Nat.le_of_ble_eq_true rfl) (by kernel_rfl) rfl ?_
  refine awp_seq ?_
  refine awpF_region ?_; intro K hK; simp only [push_cast, seval]; (try simp (disch := omega) only [wrapI]); (repeat ((with_reducible refine And.intro ?_ ?_); (focus (exact ob1)))); refine hK _ ?_; clear hK; clear K
  refine awp_seq ?_
  refine awpF_region ?_; intro K hK; simp only [push_cast, seval]; (try simp (disch := omega) only [wrapI]); (repeat ((with_reducible refine And.intro ?_ ?_); (focus (exact ob1)))); refine hK _ ?_; clear hK; clear K
  refine awp_ret ?_; (repeat (first | refine then_ret ?_ | refine inblock_ret ?_)); refine fin_of (by simp only [push_cast, seval]; first | done | rfl) ob1 ?_
  exact ⟨rfl, rfl⟩
theorem getF {l : List Fa} {X : List (List D)} {i : Nat} (hi : i < l.length) : (l.map encF ++ X)[i]? = some [.int .i64 ((atF l i).1 : Int), .int .i64 (atF l i).2] := by
  rw [List.getElem?_append_left (by simpa using hi), List.getElem?_map, List.getElem?_eq_getElem hi, atF_get hi]
  rfl
theorem p168 (l : List Fa) (X : List (List D)) (i j : Nat) (hi : i < l.length) (hj : j < l.length) : AC Tryz.prog 120 [.ref 1 0 l.length, .d (.int .i64 i), .d (.int .i64 j)] (HF l X) [0, 1] fun x H' => x = .d (.bool (decide (befF (atF l j) (atF l i)))) ∧ H' = HF l X := by
  have g1 := getF (X := X) hi
  have g2 := getF (X := X) hj
  have h172 := p172 (atF l j) (atF l i)
  simp only [encF] at h172
  rw [HF]
  refine ac_ofF (fn := Tryz.f120) [.tmp 6] (by kernel_rfl) rfl (by kernel_rfl) (Nat.le_of_ble_eq_true rfl) (by kernel_rfl) rfl ?_
  refine awp_seq ?_
  refine awpF_region ?_; intro K hK; simp only [push_cast, seval]; (try simp (disch := omega) only [wrapI]); (repeat ((with_reducible refine And.intro ?_ ?_); (focus (exact ob1)))); refine hK _ ?_; clear hK; clear K
  refine awp_seq ?_
  refine awpF_draw [0,1,2,3,4,5,6,7,8,9] (by kernel_rfl) (by kernel_rfl) rfl ?_; intro K hK; simp only [push_cast, seval, g1, g2, Int.toNat_natCast]
  (repeat ((with_reducible refine And.intro ?_ ?_); (focus (exact ob1))))
  refine CallK.pd (h172) ?_; simp only [push_cast, seval]; (try simp (disch := omega) only [wrapI]); (repeat ((with_reducible refine And.intro ?_ ?_); (focus (exact ob1))))
  refine hK _ ?_; clear hK; clear K
  refine awp_ret ?_; (repeat (first | refine then_ret ?_ | refine inblock_ret ?_)); refine fin_of (by simp only [push_cast, seval]; first | done | rfl) ob1 ?_
  exact ⟨rfl, rfl⟩
theorem p171 (l : List Fa) (X : List (List D)) (i j : Nat) (hi : i < l.length) (hj : j < l.length) : AC Tryz.prog 123 [.ref 1 0 l.length, .d (.int .i64 i), .d (.int .i64 j)] (HF l X) [0, 1] fun x H' => x = .tup [] ∧ H' = HF (sw l i j) X := by
  have g1 := getF (X := X) hi
  have g2 := getF (X := X) hj
  have hset : ((l.map encF ++ X).set i [.int .i64 ((atF l j).1 : Int), .int .i64 (atF l j).2]).set j [.int .i64 ((atF l i).1 : Int), .int .i64 (atF l i).2] = (sw l i j).map encF ++ X := by
    rw [List.set_append_left _ _ (by simpa using hi), List.set_append_left _ _ (by simpa using hj), sw, List.map_set, List.map_set]
    rfl
  rw [HF]
  refine ac_ofF (fn := Tryz.f123) [] (by kernel_rfl) rfl (by kernel_rfl) (Nat.le_of_ble_eq_true rfl) (by kernel_rfl) rfl ?_
  refine awpF_drawM [0, 1, 2, 3, 4, 5, 6, 7, 8, 9, 10, 11, 12] [] (DT.op 13 (DT.op 14 (DT.op 15 DT.nil))) (by kernel_rfl) (by kernel_rfl) (by kernel_rfl) ?_; intro K hK; simp only [push_cast, seval, g1, g2, Int.toNat_natCast]
  (repeat ((with_reducible refine And.intro ?_ ?_); (focus (exact ob1))))
  rw [hset]
  refine hK _ ?_; clear hK; clear K
  refine fin_norm (by simp only [push_cast, seval]; first | done | rfl) ob1 ⟨rfl, ?_⟩
  rw [HF, sw_len]
end Go.Aw
