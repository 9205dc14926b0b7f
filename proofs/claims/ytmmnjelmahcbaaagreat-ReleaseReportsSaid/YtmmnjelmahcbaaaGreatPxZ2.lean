/-
  Contracts of the reference: a state copied, begun, taken back. Conditions: stages that are not too many.
-/
import Derived.Test.YtmmnjelmahcbaaaGreatPxZ1
namespace Go.Aw
set_option linter.unusedSimpArgs false
set_option linter.unusedVariables false
open Go.RowKit Go.Proofs Go.Nt Go.Rl

theorem deep_sta {H : List Blk} {x : V} (s : Sta) (h : Deep H x (.sl (s.ps.map encG))) : Deep H (.agg [.d (.int .i64 s.k), .d (.int .i64 s.ol), .d (.int .i64 s.nw), x, .d (.int .i64 s.ph), .d (.int .i64 s.st), .d (.int .i64 s.gt), .d (.int .i64 s.bd), .d (.int .i64 s.al)]) (.agg (encS s)) := by
  refine Deep.agg _ _ rfl fun j a b ha hb => ?_
  unfold encS at hb
  match j with
  | 0 => simp at ha hb; subst ha; subst hb; exact .d _
  | 1 => simp at ha hb; subst ha; subst hb; exact .d _
  | 2 => simp at ha hb; subst ha; subst hb; exact .d _
  | 3 => simp at ha hb; subst ha; subst hb; exact h
  | 4 => simp at ha hb; subst ha; subst hb; exact .d _
  | 5 => simp at ha hb; subst ha; subst hb; exact .d _
  | 6 => simp at ha hb; subst ha; subst hb; exact .d _
  | 7 => simp at ha hb; subst ha; subst hb; exact .d _
  | 8 => simp at ha hb; subst ha; subst hb; exact .d _
  | j + 9 => simp at ha
theorem deep_row {H : List Blk} {id k : Nat} (ss : List Stg) (h : H[id]? = some (.data k (ss.map encG))) : Deep H (.ref id 0 ss.length) (.sl (ss.map encG)) := by
  have := Deep.data (H := H) id 0 ss.length k (ss.map encG) h (by simp)
  rw [List.drop_zero, List.take_of_length_le (by simp)] at this
  exact this

theorem q16 (s : Sta) (hn : s.ps.length ≤ 1000000) : PD Tryz.prog 16 [.agg (encS s)] (.agg ((encS s).map .d)) := by
  have hq := encG_len s.ps
  have hD := fun (H : List Blk) (x : V) (h : Deep H x (.sl (s.ps.map encG))) => deep_sta s h
  obtain ⟨d, hd⟩ : ∃ d, d = D.agg (encS s) := ⟨_, rfl⟩
  show PD Tryz.prog 16 _ (ofD (.agg (encS s)))
  rw [show ofD (.agg (encS s)) = ofD d by rw [hd]]
  rw [← hd] at hD
  clear hd
  unfold encS
  refine pdd_of (fn := Tryz.f16) [.cell 2 24] (by kernel_rfl) rfl (by kernel_rfl) (Nat.le_of_ble_eq_true rfl) (by kernel_rfl) rfl ?_
  refine awp_seq ?_
  refine awpF_region ?_; intro K hK; simp only [push_cast, seval]; (try simp (disch := omega) only [wrapI]); (repeat ((with_reducible refine And.intro ?_ ?_); (focus (exact ob1)))); refine hK _ ?_; clear hK; clear K
  refine awp_seq ?_
  refine awpF_region ?_; intro K hK; simp only [push_cast, seval]
  refine ⟨by omega, by omega, fun r h => encG_row s.ps r h, ?_⟩
  refine hK _ ?_; clear hK; clear K
  refine awp_seq ?_
  refine awpF_region ?_; intro K hK; simp only [push_cast, seval]; (try simp (disch := omega) only [wrapI]); (repeat ((with_reducible refine And.intro ?_ ?_); (focus (exact ob1)))); refine hK _ ?_; clear hK; clear K
  refine awp_ret ?_; (repeat (first | refine then_ret ?_ | refine inblock_ret ?_)); refine fin_of (by simp only [push_cast, seval]; first | done | rfl) ob1 ?_
  exact hD _ _ (deep_row s.ps rfl)

end Go.Aw
