/-
  Contracts: tails, parts of a whole, rates, digits' frame. Conditions: at most 60 runs, valid rates.
-/
import Derived.Test.YtmmnjelmahcbaaaN9
namespace Go.Aw
set_option linter.unusedSimpArgs false
set_option linter.unusedVariables false
open Go.RowKit Go.Proofs Go.Nt Go.Rl

theorem p91 (rows : List (List D)) : PC Try.prog 91 [.sl rows] fun x H => x = .fn (.func 117) [.ptr 0 0 0] ∧ H = [.cells [.d (.sl rows)]] := by
  refine pc_of (fn := Try.f91) [.tmp 2] (by kernel_rfl) rfl (by kernel_rfl) (Nat.le_of_ble_eq_true rfl) (by kernel_rfl) rfl ?_
  refine awp_seq ?_
  refine awpF_region ?_; intro K hK; simp only [push_cast, seval]; (try simp (disch := omega) only [wrapI]); (repeat ((with_reducible refine And.intro ?_ ?_); (focus (first | omega | trivial | assumption | (intro _ hrow; obtain ⟨_, _, rfl⟩ := List.mem_map.1 hrow; rfl) | ((intros; repeat' apply And.intro) <;> first | omega | trivial | assumption | (intro _ hrow; obtain ⟨_, _, rfl⟩ := List.mem_map.1 hrow; rfl) | (simp_all; done) | (simp_all; omega)))))); refine hK _ ?_; clear hK; clear K
  refine awp_seq ?_
  refine awpF_region ?_; intro K hK; simp only [push_cast, seval]; (try simp (disch := omega) only [wrapI]); (repeat ((with_reducible refine And.intro ?_ ?_); (focus (first | omega | trivial | assumption | (intro _ hrow; obtain ⟨_, _, rfl⟩ := List.mem_map.1 hrow; rfl) | ((intros; repeat' apply And.intro) <;> first | omega | trivial | assumption | (intro _ hrow; obtain ⟨_, _, rfl⟩ := List.mem_map.1 hrow; rfl) | (simp_all; done) | (simp_all; omega)))))); refine hK _ ?_; clear hK; clear K
  refine awp_ret ?_; (repeat (first | refine then_ret ?_ | refine inblock_ret ?_)); refine fin_of (by simp only [push_cast, seval]; first | done | rfl) (by first | trivial | first | omega | trivial | assumption | (intro _ hrow; obtain ⟨_, _, rfl⟩ := List.mem_map.1 hrow; rfl) | ((intros; repeat' apply And.intro) <;> first | omega | trivial | assumption | (intro _ hrow; obtain ⟨_, _, rfl⟩ := List.mem_map.1 hrow; rfl) | (simp_all; done) | (simp_all; omega))) ?_
  exact ⟨rfl, rfl⟩

theorem rowN_slice (g : Nat → Nat) {n a m : Nat} (h : a + m ≤ n) : ((rowN g (n + 1)).drop a).take (m + 1) = ((List.range (m + 1)).map fun j => g (a + j)).map fun g => [(Go.Aw.D.sl ((digs B64 (g)).map encW))] := by
  apply List.ext_getElem
  · simp [rowN]; omega
  · intro i h1 h2
    simp [rowN]

theorem sumN_le (p q n a m : Nat) : sumN (cs p q n) a m ≤ (p + q) ^ n := by
  have h1 : lo p q n (a + m) = lo p q n a + sumN (cs p q n) a m := sumF_split _ _ _
  have h2 := lo_le p q n (a + m)
  omega

theorem p52 (n a m f d : Nat) (hn : n ≤ 60) (hm : a + m ≤ n) (hf : f ≤ d) (hd : d ≤ 1000) : PD Try.prog 52 [.int .i64 n, .int .i64 a, .int .i64 ((a + m : Nat) : Int), .agg [.int .i64 f, .int .i64 d]] (.d (Go.Aw.D.sl ((digs B64 (sumN (cs f (d - f) n) a (m + 1))).map encW))) := by
  have h65 := p65 n f d hn hf hd
  have h91 := p91 (((rowN (cs f (d - f) n) (n + 1)).drop a).take (m + 1))
  have hw : IntKind.i64.wrap ((a : Int) + m + 1) = (a : Int) + m + 1 := wrapI _ (by omega)
  have ht : ((a : Int) + m + 1).toNat = a + m + 1 := by omega
  have hs : a + m + 1 - a = m + 1 := by omega
  have hrl : ∀ row : List D, row ∈ rowN (cs f (d - f) n) (n + 1) → row.length = 1 := fun r h => (rowN_row h).1
  have hfit : ∀ x, x ≤ d ^ n → nw x ≤ 500000 := fun x hx => Nat.le_trans (nw_mono hx) (Nat.le_trans (nw_pow hd hn) (by decide))
  have hdf : f + (d - f) = d := by omega
  have h90 := p90 ((List.range (m + 1)).map fun j => cs f (d - f) n (a + j)) (by simp) (by simp; omega) (fun k => sumN (cs f (d - f) n) a k) rfl (fun k g hk => by
    have hlt := (List.getElem?_eq_some_iff.1 hk).1
    simp only [List.length_map, List.length_range] at hlt
    simp [hlt] at hk
    rw [← hk]
    rfl) (fun k _ => hfit _ (by have := sumN_le f (d - f) n a k; rwa [hdf] at this)) (fun g hg => by
    obtain ⟨j, _, rfl⟩ := List.mem_map.1 hg
    exact hfit _ (by have := cs_le f (d - f) n (a + j); rwa [hdf] at this))
  rw [List.length_map, List.length_range, ← rowN_slice _ hm] at h90
  refine pd_of (fn := Try.f52) [.tmp 8] (by kernel_rfl) rfl (by kernel_rfl) (Nat.le_of_ble_eq_true rfl) (by kernel_rfl) rfl rfl ?_
  refine awp_seq ?_
  refine awpF_region ?_; intro K hK; simp only [push_cast, seval]; (try simp (disch := omega) only [wrapI]); (repeat ((with_reducible refine And.intro ?_ ?_); (focus (first | omega | trivial | assumption | (intro _ hrow; obtain ⟨_, _, rfl⟩ := List.mem_map.1 hrow; rfl) | ((intros; repeat' apply And.intro) <;> first | omega | trivial | assumption | (intro _ hrow; obtain ⟨_, _, rfl⟩ := List.mem_map.1 hrow; rfl) | (simp_all; done) | (simp_all; omega)))))); refine hK _ ?_; clear hK; clear K
  refine awp_seq ?_
  refine awpF_region ?_; intro K hK; simp only [push_cast, seval, rowN_len]
  (repeat ((with_reducible refine And.intro ?_ ?_); (focus (first | omega | trivial | assumption | (intro _ hrow; obtain ⟨_, _, rfl⟩ := List.mem_map.1 hrow; rfl) | ((intros; repeat' apply And.intro) <;> first | omega | trivial | assumption | (intro _ hrow; obtain ⟨_, _, rfl⟩ := List.mem_map.1 hrow; rfl) | (simp_all; done) | (simp_all; omega))))))
  refine CallK.pd h65 ?_
  simp only [push_cast, seval, rowN_len, hw, ht, hs]
  (repeat ((with_reducible refine And.intro ?_ ?_); (focus (first | omega | trivial | assumption | (intro _ hrow; obtain ⟨_, _, rfl⟩ := List.mem_map.1 hrow; rfl) | ((intros; repeat' apply And.intro) <;> first | omega | trivial | assumption | (intro _ hrow; obtain ⟨_, _, rfl⟩ := List.mem_map.1 hrow; rfl) | (simp_all; done) | (simp_all; omega))))))
  refine CallK.rel h91 ?_
  intro x' H' hR
  have hx' := hR.1
  have hH' := hR.2
  clear hR
  subst hx'
  subst hH'
  simp only [push_cast, seval]
  refine CallK.pd h90 ?_
  simp only [push_cast, seval]
  refine hK _ ?_; clear hK; clear K
  refine awp_ret ?_; (repeat (first | refine then_ret ?_ | refine inblock_ret ?_)); refine fin_of (by simp only [push_cast, seval]; first | done | rfl) (by first | trivial | first | omega | trivial | assumption | (intro _ hrow; obtain ⟨_, _, rfl⟩ := List.mem_map.1 hrow; rfl) | ((intros; repeat' apply And.intro) <;> first | omega | trivial | assumption | (intro _ hrow; obtain ⟨_, _, rfl⟩ := List.mem_map.1 hrow; rfl) | (simp_all; done) | (simp_all; omega))) ?_
  rfl
end Go.Aw
