/-
  Contracts of the methods that let the far points' heap grow and shrink, and of heap.Push and heap.Pop. Conditions: lengths that fit.
-/
import Derived.Test.YtecindhbaekncaaGreatPxF5
namespace Go.Aw
set_option linter.unusedSimpArgs false
set_option linter.unusedVariables false
open Go.RowKit Go.Proofs Go.Heap

abbrev boxF (x : Fa) : V := .iface 77 (.agg [.d (.int .i64 (x.1 : Int)), .d (.int .i64 x.2)])
theorem p170 (l : List Fa) (X : List (List D)) (x : Fa) (hl : l.length ≤ 2 ^ 40) : AC Tryz.prog 122 [.ptr 0 0 0, boxF x] (HF l X) [0] fun y H' => y = .tup [] ∧ H' = HF (l ++ [x]) [] := by
  have htk : (l.map encF ++ X).take l.length = l.map encF := by rw [List.take_append_of_le_length (by simp), List.take_of_length_le (by simp)]
  refine AC.shrink (R := fun y H' => y = .tup [] ∧ H' = HF (l ++ [x]) [] ++ [.data 2 [encF x]]) 2 ?_ (by simp) ?_
  · have e : HF (l ++ [x]) [] = [.cells [.ref 1 0 (l.length + 1)], .data 2 (l.map encF ++ [encF x])] := by
      rw [HF]
      simp
    rw [HF, e]
    simp only [boxF, encF] at htk ⊢
    refine ac_ofF (fn := Tryz.f122) [] (by kernel_rfl) rfl (by kernel_rfl) (Nat.le_of_ble_eq_true rfl) (by kernel_rfl) rfl ?_
    refine awpF_drawM [0, 1, 2, 3, 4, 5] [] (DT.op 6 (DT.op 7 (DT.op 8 (DT.op 9 DT.nil)))) (by kernel_rfl) (by kernel_rfl) (by kernel_rfl) ?_; intro K hK; simp only [push_cast, seval, htk]
    (repeat ((with_reducible refine And.intro ?_ ?_); (focus (exact ob1))))
    refine hK _ ?_; clear hK; clear K
    refine fin_norm (by simp only [push_cast, seval]; first | done | rfl) trivial ⟨rfl, rfl⟩
  · rintro y _ ⟨rfl, rfl⟩
    exact ⟨_, _, rfl, rfl, rfl, rfl, rfl, rfl⟩
theorem p169 (l : List Fa) (X : List (List D)) (n : Nat) (hn : l.length = n + 1) (hl : l.length ≤ 2 ^ 40) : AC Tryz.prog 121 [.ptr 0 0 0] (HF l X) [0, 1] fun y H' => y = boxF (atF l n) ∧ ∃ X', H' = HF (l.take n) X' := by
  have g1 := getF (X := X) (show n < l.length by omega)
  have hw : IntKind.i64.wrap ((l.length : Int) - 1) = (n : Int) := by
    rw [wrapI _ (by omega)]
    omega
  refine AC.shrink (R := fun y H' => y = boxF (atF l n) ∧ H' = HF (l.take n) ((l.drop n).map encF ++ X) ++ [.cells [.d (.int .i64 ((atF l n).1 : Int)), .d (.int .i64 (atF l n).2)]]) 2 ?_ (by simp) ?_
  · have e : HF (l.take n) ((l.drop n).map encF ++ X) = [.cells [.ref 1 0 n], .data 2 (l.map encF ++ X)] := by
      rw [HF, ← List.append_assoc, ← List.map_append, List.take_append_drop, List.length_take]
      congr 4
      omega
    rw [HF, e]
    simp only [boxF, encF] at g1 ⊢
    refine ac_ofF (fn := Tryz.f121) [.tmp 2] (by kernel_rfl) rfl (by kernel_rfl) (Nat.le_of_ble_eq_true rfl) (by kernel_rfl) rfl ?_
    refine awp_seq ?_
    refine awpF_region ?_; intro K hK; simp only [push_cast, seval]; (try simp (disch := omega) only [wrapI]); (repeat ((with_reducible refine And.intro ?_ ?_); (focus (exact ob1)))); refine hK _ ?_; clear hK; clear K
    refine awp_seq ?_
    refine awpF_draw [0,1,2,3,4,5,6,7,8,9,10,11] (by kernel_rfl) (by kernel_rfl) rfl ?_; intro K hK; simp only [push_cast, seval, hw, g1, Int.toNat_natCast]
    (repeat ((with_reducible refine And.intro ?_ ?_); (focus (exact ob1))))
    refine hK _ ?_; clear hK; clear K
    refine awp_seq ?_
    refine awpF_draw [0,1,2,3,4,5,6,7,8,9,10,11] (by kernel_rfl) (by kernel_rfl) rfl ?_; intro K hK; simp only [push_cast, seval, hw, Int.toNat_natCast]
    (repeat ((with_reducible refine And.intro ?_ ?_); (focus (exact ob1))))
    refine hK _ ?_; clear hK; clear K
    refine awp_seq ?_
    refine awpF_region ?_; intro K hK; simp only [push_cast, seval]; (try simp (disch := omega) only [wrapI]); (repeat ((with_reducible refine And.intro ?_ ?_); (focus (exact ob1)))); refine hK _ ?_; clear hK; clear K
    refine awp_ret ?_; (repeat (first | refine then_ret ?_ | refine inblock_ret ?_)); refine fin_of (by simp only [push_cast, seval]; first | done | rfl) ob1 ?_
    exact ⟨rfl, rfl⟩
  · rintro y _ ⟨rfl, rfl⟩
    exact ⟨_, _, rfl, rfl, rfl, rfl, rfl, _, rfl⟩
end Go.Aw
