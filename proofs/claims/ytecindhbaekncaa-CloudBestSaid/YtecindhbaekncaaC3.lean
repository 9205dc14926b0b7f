/-
  Contract of the recursion that finds a root and cuts the way to it short. Conditions: no number points above itself.
-/
import Derived.Test.YtecindhbaekncaaC2
import Derived.Test.YtecindhbaekncaaSgA
namespace Go.Aw
set_option linter.unusedSimpArgs false
set_option linter.unusedVariables false
open Go.RowKit Go.Proofs Go.Seg

def encN (x : Nat) : List D := [.int .i64 x]

def segHeap (n : Nat) (up : List Nat) (T : List Blk) : List Blk := .data 1 (up.map encN) :: .cells [.ref 0 0 n] :: .cells [.fn (.func 57) [.ptr 1 0 0, .ptr 2 0 0]] :: T

theorem getD_of {up : List Nat} {i x d : Nat} (h : up[i]? = some x) : up.getD i d = x := by simp [List.getD_eq_getElem?_getD, h]

theorem p57 (T : List Blk) (n : Nat) : ∀ (i : Nat) (up : List Nat), up.length = n → Down up → i < n → AC Try.prog 57 [.d (.int .i64 i), .ptr 1 0 0, .ptr 2 0 0] (segHeap n up T) (List.range (segHeap n up T).length)
    fun x H' => x = .d (.int .i64 (root up i)) ∧ ∃ up', Same up up' ∧ H' = segHeap n up' T := by
  intro i
  induction i using Nat.strongRecOn with
  | _ i ih =>
  intro up hn hd hin
  have hi : i < up.length := by omega
  obtain ⟨x, hx⟩ : ∃ x, up[i]? = some x := ⟨_, List.getElem?_eq_getElem hi⟩
  have hle : x ≤ i := by have := hd i hi; rwa [getD_of hx] at this
  rw [segHeap]
  refine ac_ofF (fn := Try.f57) [.tmp 4] (by kernel_rfl) rfl (by kernel_rfl) (Nat.le_of_ble_eq_true rfl) (by kernel_rfl) rfl ?_
  refine awp_seq ?_
  refine awpF_region ?_; intro K hK; simp only [push_cast, seval]; (try simp (disch := omega) only [wrapI]); (repeat ((with_reducible refine And.intro ?_ ?_); (focus (first | trivial | assumption | omega | (intro _ hrow; obtain ⟨_, _, rfl⟩ := List.mem_map.1 hrow; rfl) | ((intros; repeat' apply And.intro) <;> first | trivial | assumption | omega | (intro _ hrow; obtain ⟨_, _, rfl⟩ := List.mem_map.1 hrow; rfl) | (simp_all; done) | (simp_all; omega)))))); refine hK _ ?_; clear hK; clear K
  refine awp_seq ?_
  refine awp_seq ?_
  refine awpF_region ?_; intro K hK; simp only [push_cast, seval, hx, encN]
  (repeat ((with_reducible refine And.intro ?_ ?_); (focus (first | trivial | assumption | omega | (intro _ hrow; obtain ⟨_, _, rfl⟩ := List.mem_map.1 hrow; rfl) | ((intros; repeat' apply And.intro) <;> first | trivial | assumption | omega | (intro _ hrow; obtain ⟨_, _, rfl⟩ := List.mem_map.1 hrow; rfl) | (simp_all; done) | (simp_all; omega))))))
  refine hK _ ?_; clear hK; clear K
  apply awp_cond; (focus (simp only [push_cast, seval]; rfl))
  · intro hc; (try simp only [decide_eq_true_eq, decide_eq_false_iff_not, Bool.not_eq_true', Bool.not_eq_false', Bool.and_eq_true, Bool.or_eq_true, Bool.not_eq_true] at hc)
    have hne : x ≠ i := by simp at hc; omega
    have hlt : x < i := by omega
    refine awpF_drawH [7] [1,2] [6] [0,1,2,3,4,5,6,7,8,9] (by kernel_rfl) (by kernel_rfl) (by simp only [srt, Nat.reduceLT, decide_true, Bool.and_self]) (by kernel_rfl) (by kernel_rfl) ?_; intro K hK; simp only [push_cast, seval, hx, encN]
    (repeat ((with_reducible refine And.intro ?_ ?_); (focus (first | trivial | assumption | omega | (intro _ hrow; obtain ⟨_, _, rfl⟩ := List.mem_map.1 hrow; rfl) | ((intros; repeat' apply And.intro) <;> first | trivial | assumption | omega | (intro _ hrow; obtain ⟨_, _, rfl⟩ := List.mem_map.1 hrow; rfl) | (simp_all; done) | (simp_all; omega))))))
    refine HeapK.mk _ (ih x hlt up hn hd (by omega)) ?_
    rintro _ _ ⟨rfl, up', hS, rfl⟩
    have hil : i < up'.length := by rw [hS.len]; exact hi
    have hgo : root up i = root up x := by
      have h := root_go (up := up) (i := i) (by rw [getD_of hx]; exact hlt)
      rwa [getD_of hx] at h
    rw [segHeap]
    simp only [push_cast, seval, encN, RoS, shp, forall_eq_or_imp, forall_eq]
    refine ⟨fun id => by rcases id with _ | id <;> rfl, by omega, by omega, ?_⟩
    refine hK _ ?_; clear hK; clear K
    have hmap : (List.map encN up').set i [D.int IntKind.i64 (root up x)] = (up'.set i (root up x)).map encN := by rw [List.map_set]; rfl
    have hgot : (up'.set i (root up x))[i]? = some (root up x) := by simp [hil]
    have hdn : Same up (up'.set i (root up x)) := by
      have := Same.cut hi hS
      rwa [hgo] at this
    rw [hmap]
    refine awp_seq ?_
    refine awpF_region ?_; intro K hK; simp only [push_cast, seval, hgot, encN]
    (repeat ((with_reducible refine And.intro ?_ ?_); (focus (first | trivial | assumption | omega | (intro _ hrow; obtain ⟨_, _, rfl⟩ := List.mem_map.1 hrow; rfl) | ((intros; repeat' apply And.intro) <;> first | trivial | assumption | omega | (intro _ hrow; obtain ⟨_, _, rfl⟩ := List.mem_map.1 hrow; rfl) | (simp_all; done) | (simp_all; omega))))))
    refine hK _ ?_; clear hK; clear K
    refine awp_ret ?_; (repeat (first | refine then_ret ?_ | refine inblock_ret ?_)); refine fin_of (by simp only [push_cast, seval]; first | done | rfl) (by first | trivial | first | trivial | assumption | omega | (intro _ hrow; obtain ⟨_, _, rfl⟩ := List.mem_map.1 hrow; rfl) | ((intros; repeat' apply And.intro) <;> first | trivial | assumption | omega | (intro _ hrow; obtain ⟨_, _, rfl⟩ := List.mem_map.1 hrow; rfl) | (simp_all; done) | (simp_all; omega))) ?_
    refine ⟨by rw [hgo], _, hdn, ?_⟩
    simp [segHeap, encN]
  · intro hc; (try simp only [decide_eq_true_eq, decide_eq_false_iff_not, Bool.not_eq_true', Bool.not_eq_false', Bool.and_eq_true, Bool.or_eq_true, Bool.not_eq_true] at hc)
    have hxi : x = i := by simp at hc; omega
    subst hxi
    have hroot : root up x = x := root_fix (by rw [getD_of hx]; exact Nat.lt_irrefl _)
    refine awp_skip ?_
    refine awp_seq ?_
    refine awpF_region ?_; intro K hK; simp only [push_cast, seval, hx, encN]; (try simp (disch := omega) only [wrapI]); (repeat ((with_reducible refine And.intro ?_ ?_); (focus (first | trivial | assumption | omega | (intro _ hrow; obtain ⟨_, _, rfl⟩ := List.mem_map.1 hrow; rfl) | ((intros; repeat' apply And.intro) <;> first | trivial | assumption | omega | (intro _ hrow; obtain ⟨_, _, rfl⟩ := List.mem_map.1 hrow; rfl) | (simp_all; done) | (simp_all; omega)))))); refine hK _ ?_; clear hK; clear K
    refine awp_ret ?_; (repeat (first | refine then_ret ?_ | refine inblock_ret ?_)); refine fin_of (by simp only [push_cast, seval]; first | done | rfl) (by first | trivial | first | trivial | assumption | omega | (intro _ hrow; obtain ⟨_, _, rfl⟩ := List.mem_map.1 hrow; rfl) | ((intros; repeat' apply And.intro) <;> first | trivial | assumption | omega | (intro _ hrow; obtain ⟨_, _, rfl⟩ := List.mem_map.1 hrow; rfl) | (simp_all; done) | (simp_all; omega))) ?_
    exact ⟨by rw [hroot], up, .refl hd, rfl⟩

end Go.Aw
