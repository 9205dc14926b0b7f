/-
  Contracts of heap.Push and heap.Pop over an own heap of far points. Conditions: lengths that fit.
-/
import Derived.Test.YtecindhbaekncaaGreatPxAwIw
import Derived.Test.YtecindhbaekncaaGreatPxF6
namespace Go.Aw
set_option linter.unusedSimpArgs false
set_option linter.unusedVariables false
open Go.RowKit Go.Proofs Go.Heap

theorem p77 (l : List Fa) (X : List (List D)) (x : Fa) (hl : l.length < 2 ^ 40) : AC Tryz.prog 35 [.iface 72 (.ptr 0 0 0), boxF x] (HF l X) [0] fun y H' => y = .tup [] ∧ H' = HF (push befF l x) [] := by
  have h170 := p170 l X x (by omega)
  have h106 := p106 (l ++ [x]) [] l.length (by simp) (by simp; omega)
  have h78 := fun H => p78 1 (l.length + 1) H
  have hll : (l ++ [x]).length = l.length + 1 := by simp
  refine ac_ofF (fn := Tryz.f35) [] (by kernel_rfl) rfl (by kernel_rfl) (Nat.le_of_ble_eq_true rfl) (by kernel_rfl) rfl ?_
  refine awp_seq ?_
  refine awp_regionF ?_; intro K hK
  refine from_X 2 rfl rfl ?_; simp only [push_cast, seval]; (try simp (disch := omega) only [wrapI]); (repeat ((with_reducible refine And.intro ?_ ?_); (focus (exact ob1))))
  refine invoke_M (pr := true) (p := True) (ob := True) (y := .tup []) 1 (by simp) rfl (by simp only [push_cast, seval] <;> rfl) trivial m_push m_u (fun h => by cases h) (by simp only [push_cast, seval]) h170 ?_
  rintro _ _ ⟨rfl, rfl⟩
  simp only [push_cast, seval]
  refine from_end ?_; simp only [push_cast, seval]; (try simp (disch := omega) only [wrapI]); (repeat ((with_reducible refine And.intro ?_ ?_); (focus (exact ob1)))); refine hK _ ?_; clear hK; clear K
  refine awp_regionF ?_; intro K hK
  refine from_X 2 rfl rfl ?_; simp only [push_cast, seval]; (try simp (disch := omega) only [wrapI]); (repeat ((with_reducible refine And.intro ?_ ?_); (focus (exact ob1))))
  rw [HF, hll]
  refine invoke_X (pr := false) (p := True) rfl (by simp only [push_cast, seval] <;> rfl) trivial m_len m_u (fun _ => ⟨by simp only [push_cast, seval] <;> rfl, trivial⟩) (by simp only [push_cast, seval]) (h78 _) ?_
  rintro _ _ ⟨rfl, rfl⟩
  refine from_X 4 rfl rfl ?_; simp only [push_cast, seval, Int.add_sub_cancel]; (try simp (disch := omega) only [wrapI]); (repeat ((with_reducible refine And.intro ?_ ?_); (focus (exact ob1))))
  rw [HF, hll, List.append_nil] at h106
  refine call_X (by simp only [push_cast, seval]) (h106) ?_; rintro _ _ ⟨rfl, rfl⟩; simp only [push_cast, seval]; (try simp (disch := omega) only [wrapI]); (repeat ((with_reducible refine And.intro ?_ ?_); (focus (exact ob1))))
  refine from_end ?_; simp only [push_cast, seval]; (try simp (disch := omega) only [wrapI]); (repeat ((with_reducible refine And.intro ?_ ?_); (focus (exact ob1)))); refine hK _ ?_; clear hK; clear K
  refine fin_norm (by simp only [push_cast, seval]; first | done | rfl) trivial ⟨rfl, rfl⟩
theorem p79 (l : List Fa) (X : List (List D)) (n : Nat) (hn : l.length = n + 1) (hl : l.length ≤ 2 ^ 40) : AC Tryz.prog 37 [.iface 72 (.ptr 0 0 0)] (HF l X) [0, 1] fun y H' => y = boxF (atF (down befF (sw l 0 n) n 0) n) ∧ ∃ X', H' = HF ((down befF (sw l 0 n) n 0).take n) X' := by
  have hsl := sw_len l 0 n
  have h171 := p171 l X 0 n (by omega) (by omega)
  have h107 := p107 (sw l 0 n) X n (by omega) (by omega)
  have hdl := down_len (bef := befF) (sw l 0 n) n 0 (by omega)
  have h169 := p169 (down befF (sw l 0 n) n 0) X n (by omega) (by omega)
  have h78 := fun H => p78 1 l.length H
  have hw : IntKind.i64.wrap ((l.length : Int) - 1) = (n : Int) := by
    rw [wrapI _ (by omega)]
    omega
  generalize hD : down befF (sw l 0 n) n 0 = Dn at *
  refine ac_ofF (fn := Tryz.f37) [.tmp 2] (by kernel_rfl) rfl (by kernel_rfl) (Nat.le_of_ble_eq_true rfl) (by kernel_rfl) rfl ?_
  refine awp_seq ?_
  refine awpF_region ?_; intro K hK; simp only [push_cast, seval]; (try simp (disch := omega) only [wrapI]); (repeat ((with_reducible refine And.intro ?_ ?_); (focus (exact ob1)))); refine hK _ ?_; clear hK; clear K
  refine awp_seq ?_
  refine awp_regionF ?_; intro K hK
  refine from_X 1 rfl rfl ?_; simp only [push_cast, seval]; (try simp (disch := omega) only [wrapI]); (repeat ((with_reducible refine And.intro ?_ ?_); (focus (exact ob1))))
  refine invoke_X (pr := false) (p := True) rfl (by simp only [push_cast, seval] <;> rfl) trivial m_len m_u (fun _ => ⟨by rw [HF]; simp only [push_cast, seval]; rfl, by simp only [push_cast, seval]⟩) (by simp only [push_cast, seval]) (h78 _) ?_
  rintro _ _ ⟨rfl, rfl⟩
  simp only [push_cast, seval]
  refine from_end ?_; simp only [push_cast, seval, hw]; (try simp (disch := omega) only [wrapI]); (repeat ((with_reducible refine And.intro ?_ ?_); (focus (exact ob1)))); refine hK _ ?_; clear hK; clear K
  refine awp_seq ?_
  refine awp_regionX 2 rfl ?_; intro K hK; simp only [push_cast, seval]; (try simp (disch := omega) only [wrapI]); (repeat ((with_reducible refine And.intro ?_ ?_); (focus (exact ob1))))
  refine invoke_X (pr := false) (p := True) rfl (by simp only [push_cast, seval]; rfl) trivial m_swap m_u (fun _ => ⟨by rw [HF]; simp only [push_cast, seval]; rfl, by simp only [push_cast, seval]⟩) (by simp only [push_cast, seval]) (h171) ?_; rintro _ _ ⟨rfl, rfl⟩; simp only [push_cast, seval]; (try simp (disch := omega) only [wrapI]); (repeat ((with_reducible refine And.intro ?_ ?_); (focus (exact ob1))))
  refine hK _ ?_; clear hK; clear K
  refine awp_seq ?_
  refine awp_regionF ?_; intro K hK
  refine from_X 2 rfl rfl ?_; simp only [push_cast, seval]; (try simp (disch := omega) only [wrapI]); (repeat ((with_reducible refine And.intro ?_ ?_); (focus (exact ob1))))
  refine call_X (by simp only [push_cast, seval]) h107 ?_
  rintro _ _ ⟨⟨b, rfl⟩, rfl⟩
  simp only [push_cast, seval]
  refine from_end ?_; simp only [push_cast, seval]; (try simp (disch := omega) only [wrapI]); (repeat ((with_reducible refine And.intro ?_ ?_); (focus (exact ob1)))); refine hK _ ?_; clear hK; clear K
  refine awp_seq ?_
  refine awp_regionF ?_; intro K hK
  refine from_X 1 rfl rfl ?_; simp only [push_cast, seval]; (try simp (disch := omega) only [wrapI]); (repeat ((with_reducible refine And.intro ?_ ?_); (focus (exact ob1))))
  refine invoke_X (pr := true) (p := True) (ob := True) (y := .tup []) rfl (by simp only [push_cast, seval] <;> rfl) trivial m_pop m_u (fun h => by cases h) (by simp only [push_cast, seval]) h169 ?_
  rintro _ _ ⟨rfl, X', rfl⟩
  simp only [push_cast, seval]
  refine from_end ?_; simp only [push_cast, seval]; (try simp (disch := omega) only [wrapI]); (repeat ((with_reducible refine And.intro ?_ ?_); (focus (exact ob1)))); refine hK _ ?_; clear hK; clear K
  refine awp_ret ?_; (repeat (first | refine then_ret ?_ | refine inblock_ret ?_)); refine fin_of (by simp only [push_cast, seval]; first | done | rfl) ob1 ?_
  exact ⟨rfl, X', rfl⟩
end Go.Aw
