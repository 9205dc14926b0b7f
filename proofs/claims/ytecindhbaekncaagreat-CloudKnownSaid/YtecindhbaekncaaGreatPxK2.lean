/-
  What CloudKnown answers. (Written with the numbers of the seat .Z.) No condition.
-/
import Derived.Test.YtecindhbaekncaaGreatPxK1
import Derived.Test.YtecindhbaekncaaGreatPcF
import Derived.Test.YtecindhbaekncaaGreatPcB
import Derived.Test.YtecindhbaekncaaGreatPcC
import Derived.Test.YtecindhbaekncaaGreatPxH4
import Derived.Test.YtecindhbaekncaaGreatPxH5
import Derived.Test.YtecindhbaekncaaGreatPxF3
namespace Go.Aw
set_option linter.unusedSimpArgs false
set_option linter.unusedVariables false
open Go.RowKit Go.Proofs
set_option maxRecDepth 100000

theorem kk : (∀ a : Int, (a == a) = true) ∧ (∀ a : Int, (a != a) = false) ∧ (∀ a b : Bool, (bif true then a else b) = a) ∧ (∀ a b : Bool, (bif false then a else b) = b) ∧ (!true) = false ∧ (!false) = true ∧ (∀ b : Bool, (true && b) = b) ∧ (∀ b : Bool, (b && true) = b) := by simp
theorem q3 : PD Tryz.prog 3 [] (.d (.bool true)) := by
  have h56 := p56
  have h25 : PD Tryz.prog 6 [.sl (shown.map encP)] (.d (.int .i64 0)) := p25 shown
  have h25a : PD Tryz.prog 6 [.sl [[.int .i64 0, .int .i64 0, .int .i64 (-4001)]]] (.d (.int .i64 2)) := p25 [(0, 0, -4001)]
  have h25b : PD Tryz.prog 6 [.sl (List.replicate 1001 [.int .i64 0, .int .i64 0, .int .i64 0])] (.d (.int .i64 8)) := by
    have := p25 (List.replicate 1001 (0, 0, 0))
    rw [List.map_replicate, k_chk2] at this
    exact this
  have h40 : PD Tryz.prog 7 [.sl (shown.map encP), .int .i64 1000] (.tup [.d (.sl [[.int .i64 0, .int .i64 0, .sl [[.int .i64 0], [.int .i64 1], [.int .i64 4]]], [.int .i64 2, .int .i64 0, .sl [[.int .i64 2], [.int .i64 3]]]]), .d (.int .i64 0)]) := by
    have := p40d shown 1000 _ k_keys
    rw [outBk, if_pos k_idx, k_bks, k_idx] at this
    exact this
  have h40z : PD Tryz.prog 7 [.sl (shown.map encP), .int .i64 0] (.tup [.d (.sl []), .d (.int .i64 2)]) := by
    obtain ⟨ks, hk⟩ := keys_ex (shown.map (cellP 0))
    have := p40d shown 0 ks hk
    rw [outBk, if_neg (by rw [k_idx0]; decide), k_idx0] at this
    exact this
  have h33a : PD Tryz.prog 8 [.sl [[.int .i64 0], [.int .i64 1], [.int .i64 4]], .sl [[.int .i64 0], [.int .i64 1], [.int .i64 4]]] (.d (.bool true)) := p33n [0, 1, 4] [0, 1, 4] (by decide)
  have h33b : PD Tryz.prog 8 [.sl [[.int .i64 2], [.int .i64 3]], .sl [[.int .i64 2], [.int .i64 3]]] (.d (.bool true)) := p33n [2, 3] [2, 3] (by decide)
  have h33c : PD Tryz.prog 8 [.sl [[.int .i64 0], [.int .i64 1], [.int .i64 4], [.int .i64 2], [.int .i64 3]], .sl [[.int .i64 0], [.int .i64 1], [.int .i64 4], [.int .i64 2], [.int .i64 3]]] (.d (.bool true)) := p33n [0, 1, 4, 2, 3] [0, 1, 4, 2, 3] (by decide)
  have h34 : PD Tryz.prog 9 [.sl (shown.map encP), .agg [.int .i64 0, .int .i64 0, .int .i64 300, .int .i64 400]] (.d (.sl [[.int .i64 0], [.int .i64 1], [.int .i64 4]])) := by
    have := p34 shown (0, 0, 300, 400)
    rw [k_within] at this
    exact this
  have h36 : PD Tryz.prog 10 [.sl (shown.map encP), .agg [.int .i64 0, .int .i64 0], .int .i64 500] (.d (.sl [[.int .i64 0], [.int .i64 1], [.int .i64 4]])) := by
    have := p36 shown 0 0 500
    rw [k_near] at this
    exact this
  have h38a : PD Tryz.prog 11 [.sl (shown.map encP), .agg [.int .i64 0, .int .i64 0], .int .i64 3] (.d (.sl [[.int .i64 0], [.int .i64 1], [.int .i64 4]])) := by
    have := p38 shown 0 0 3
    rw [k_nst1] at this
    exact this
  have h38b : PD Tryz.prog 11 [.sl (shown.map encP), .agg [.int .i64 2000, .int .i64 40], .int .i64 2] (.d (.sl [[.int .i64 2], [.int .i64 3]])) := by
    have := p38 shown 2000 40 2
    rw [k_nst2] at this
    exact this
  have h38c : PD Tryz.prog 11 [.sl (shown.map encP), .agg [.int .i64 0, .int .i64 0], .int .i64 9] (.d (.sl [[.int .i64 0], [.int .i64 1], [.int .i64 4], [.int .i64 2], [.int .i64 3]])) := by
    have := p38 shown 0 0 9
    rw [k_nst3] at this
    exact this
  have h17a : PD Tryz.prog 12 [.sl (shown.map encP), .int .i64 499] (.tup [.d (.sl [[.sl [[.int .i64 0]]], [.sl [[.int .i64 1], [.int .i64 4]]], [.sl [[.int .i64 2], [.int .i64 3]]]]), .d (.int .i64 0)]) := p17s segs499
  have h17b : PD Tryz.prog 12 [.sl (shown.map encP), .int .i64 2000] (.tup [.d (.sl [[.sl [[.int .i64 0], [.int .i64 1], [.int .i64 2], [.int .i64 3], [.int .i64 4]]]]), .d (.int .i64 0)]) := p17s segs2000
  have h19a : PD Tryz.prog 13 [.sl [[.sl [[.int .i64 0]]], [.sl [[.int .i64 1], [.int .i64 4]]], [.sl [[.int .i64 2], [.int .i64 3]]]], .sl [[.sl [[.int .i64 0]]], [.sl [[.int .i64 1], [.int .i64 4]]], [.sl [[.int .i64 2], [.int .i64 3]]]]] (.d (.bool true)) :=
    p19 [[0], [1, 4], [2, 3]] [[0], [1, 4], [2, 3]] (by decide) (by decide)
  have h19b : PD Tryz.prog 13 [.sl [[.sl [[.int .i64 0], [.int .i64 1], [.int .i64 2], [.int .i64 3], [.int .i64 4]]]], .sl [[.sl [[.int .i64 0], [.int .i64 1], [.int .i64 2], [.int .i64 3], [.int .i64 4]]]]] (.d (.bool true)) :=
    p19 [[0, 1, 2, 3, 4]] [[0, 1, 2, 3, 4]] (by decide) (by decide)
  have h42 : PD Tryz.prog 14 [.sl (shown.map encP), .int .i64 1000] (.tup [.d (.sl [[.int .i64 0, .int .i64 0, .int .i64 9], [.int .i64 2000, .int .i64 0, .int .i64 7]]), .d (.int .i64 0)]) := by
    have := p42 shown 1000
    rw [k_red, k_idx] at this
    exact this
  have h20 : PD Tryz.prog 15 [.sl [[.int .i64 0, .int .i64 0, .int .i64 9], [.int .i64 2000, .int .i64 0, .int .i64 7]], .sl [[.int .i64 0, .int .i64 0, .int .i64 9], [.int .i64 2000, .int .i64 0, .int .i64 7]]] (.d (.bool true)) := p20 [(0, 0, 9), (2000, 0, 7)] [(0, 0, 9), (2000, 0, 7)] (by decide)
  have h49 : PD Tryz.prog 17 [.sl (shown.map encP)] (.d (.sl [[.int .i64 0, .int .i64 0], [.int .i64 2000, .int .i64 0], [.int .i64 2000, .int .i64 100], [.int .i64 300, .int .i64 400]])) := by
    have := p49 shown hullK0 k_hull
    rw [if_pos k_chk] at this
    exact this
  have h51 : PD Tryz.prog 18 [.sl [[.int .i64 0, .int .i64 0], [.int .i64 2000, .int .i64 0], [.int .i64 2000, .int .i64 100], [.int .i64 300, .int .i64 400]], .sl [[.int .i64 0, .int .i64 0], [.int .i64 2000, .int .i64 0], [.int .i64 2000, .int .i64 100], [.int .i64 300, .int .i64 400]]] (.d (.bool true)) := p51 hullK0 hullK0 (by decide)
  have h52 : PD Tryz.prog 19 [.sl [[.int .i64 0, .int .i64 0], [.int .i64 2000, .int .i64 0], [.int .i64 2000, .int .i64 100], [.int .i64 300, .int .i64 400]]] (.d (.int .i64 970000)) := by
    have := p52 hullK0 (by decide)
    rw [k_area] at this
    exact this
  have h54a : PD Tryz.prog 20 [.sl [[.int .i64 0, .int .i64 0], [.int .i64 2000, .int .i64 0], [.int .i64 2000, .int .i64 100], [.int .i64 300, .int .i64 400]], .agg [.int .i64 1000, .int .i64 100]] (.d (.bool true)) := by
    have := p54 hullK0 (1000, 100) (by decide)
    rw [k_ins1] at this
    exact this
  have h54b : PD Tryz.prog 20 [.sl [[.int .i64 0, .int .i64 0], [.int .i64 2000, .int .i64 0], [.int .i64 2000, .int .i64 100], [.int .i64 300, .int .i64 400]], .agg [.int .i64 1000, .int .i64 300]] (.d (.bool false)) := by
    have := p54 hullK0 (1000, 300) (by decide)
    rw [k_ins2] at this
    exact this
  have h21 : PD Tryz.prog 21 [.sl (shown.map encP)] (.tup [.agg [.d (.int .i64 0), .d (.int .i64 0), .d (.int .i64 2000), .d (.int .i64 400)], .d (.bool true)]) := by
    have := p21 shown
    rw [k_arnd] at this
    exact this
  have h21n : PD Tryz.prog 21 [.sl []] (.tup [.agg [.d (.int .i64 0), .d (.int .i64 0), .d (.int .i64 0), .d (.int .i64 0)], .d (.bool false)]) := p21 []
  have h23 : PD Tryz.prog 22 [.sl (shown.map encP), .agg [.int .i64 1, .int .i64 (-1)]] (.tup [.d (.sl [[.int .i64 1, .int .i64 (-1), .int .i64 0], [.int .i64 301, .int .i64 399, .int .i64 5], [.int .i64 2001, .int .i64 (-1), .int .i64 0], [.int .i64 2001, .int .i64 99, .int .i64 7], [.int .i64 301, .int .i64 399, .int .i64 9]]), .d (.int .i64 0)]) := by
    have := p23 shown 1 (-1)
    rw [k_shift] at this
    exact this
  have h27 : PD Tryz.prog 23 [.sl (shown.map encP), .sl [[.int .i64 1, .int .i64 (-1), .int .i64 0], [.int .i64 301, .int .i64 399, .int .i64 5], [.int .i64 2001, .int .i64 (-1), .int .i64 0], [.int .i64 2001, .int .i64 99, .int .i64 7], [.int .i64 301, .int .i64 399, .int .i64 9]], .int .i64 10, .int .i64 0] (.tup [.agg [.d (.int .i64 (-1)), .d (.int .i64 1)], .d (.int .i64 5), .d (.int .i64 0)]) := by
    have := p27 shown shownM 10 0
    rw [k_reg] at this
    exact this
  have h29a : PD Tryz.prog 24 [.sl (shown.map encP), .sl (shown.map encP), .agg [.int .i64 0, .int .i64 0], .int .i64 0] (.d (.int .i64 5)) := by
    have := p29 shown shown 0 0 0
    rw [k_m1] at this
    exact this
  have h29b : PD Tryz.prog 24 [.sl (shown.map encP), .sl (shown.map encP), .agg [.int .i64 1, .int .i64 0], .int .i64 0] (.d (.int .i64 0)) := by
    have := p29 shown shown 1 0 0
    rw [k_m2] at this
    exact this
  refine pd_of (fn := Tryz.f3) [.tmp 0] (by kernel_rfl) rfl (by kernel_rfl) (Nat.le_of_ble_eq_true rfl) (by kernel_rfl) rfl rfl ?_
  refine awp_seq ?_
  refine awpF_region ?_; intro K hK; simp only [push_cast, seval]; (try simp (disch := omega) only [wrapI]); (repeat ((with_reducible refine And.intro ?_ ?_); (focus (exact ob1)))); refine hK _ ?_; clear hK; clear K
  refine awp_mid (fun u => u = ⟨[(1, .d (.sl (shown.map encP)))], []⟩) ?_ ?_
  · refine awpF_region ?_; intro K hK; simp only [push_cast, seval, kk]
    (repeat ((with_reducible refine And.intro ?_ ?_); (focus (exact ob1))))
    refine CallK.pd (h56) ?_; simp only [push_cast, seval, kk, ofD]; (repeat ((with_reducible refine And.intro ?_ ?_); (focus (exact ob1))))
    refine hK _ ?_; clear hK; clear K
    refine mid_end [] _ rfl ?_
    exact ⟨by simp, by simp, by simp [push_cast, seval], by simp [push_cast, seval], by simp [push_cast, seval], by simp [push_cast, seval]⟩
  rintro _ rfl
  refine awp_mid (fun u => u = ⟨[(1, .d (.sl (shown.map encP)))], []⟩) ?_ ?_
  · refine awp_seq ?_
    refine awpF_region ?_; intro K hK; simp only [push_cast, seval, kk]
    (repeat ((with_reducible refine And.intro ?_ ?_); (focus (exact ob1))))
    refine CallK.pd (p15) ?_; simp only [push_cast, seval, kk, ofD]; (repeat ((with_reducible refine And.intro ?_ ?_); (focus (exact ob1))))
    refine CallK.pd (h25) ?_; simp only [push_cast, seval, kk, ofD]; (repeat ((with_reducible refine And.intro ?_ ?_); (focus (exact ob1))))
    refine CallK.pd (h25a) ?_; simp only [push_cast, seval, kk, ofD]; (repeat ((with_reducible refine And.intro ?_ ?_); (focus (exact ob1))))
    refine CallK.pd (h25b) ?_; simp only [push_cast, seval, kk, ofD]; (repeat ((with_reducible refine And.intro ?_ ?_); (focus (exact ob1))))
    refine hK _ ?_; clear hK; clear K
    apply awp_cond; (focus (simp only [push_cast, seval]; rfl))
    · intro h
      cases h
    intro _
    refine awp_skip ?_
    refine mid_end [] _ rfl ?_
    exact ⟨by simp, by simp, by simp [push_cast, seval], by simp [push_cast, seval], by simp [push_cast, seval], by simp [push_cast, seval]⟩
  rintro _ rfl
  refine awp_mid (fun u => u = ⟨[(1, .d (.sl (shown.map encP))), (2, .d (.sl [[.int .i64 0, .int .i64 0, .sl [[.int .i64 0], [.int .i64 1], [.int .i64 4]]], [.int .i64 2, .int .i64 0, .sl [[.int .i64 2], [.int .i64 3]]]])), (3, .d (.int .i64 0))], []⟩) ?_ ?_
  · refine awpF_region ?_; intro K hK; simp only [push_cast, seval, kk]
    (repeat ((with_reducible refine And.intro ?_ ?_); (focus (exact ob1))))
    refine CallK.pd (h40) ?_; simp only [push_cast, seval, kk, ofD]; (repeat ((with_reducible refine And.intro ?_ ?_); (focus (exact ob1))))
    refine hK _ ?_; clear hK; clear K
    refine mid_end [] _ rfl ?_
    exact ⟨by simp, by simp, by simp [push_cast, seval], by simp [push_cast, seval], by simp [push_cast, seval], by simp [push_cast, seval]⟩
  rintro _ rfl
  refine awp_mid (fun u => u = ⟨[(1, .d (.sl (shown.map encP))), (2, .d (.sl [[.int .i64 0, .int .i64 0, .sl [[.int .i64 0], [.int .i64 1], [.int .i64 4]]], [.int .i64 2, .int .i64 0, .sl [[.int .i64 2], [.int .i64 3]]]])), (3, .d (.int .i64 0)), (5, .d (.int .i64 2))], []⟩) ?_ ?_
  · refine awpF_region ?_; intro K hK; simp only [push_cast, seval, kk]
    (repeat ((with_reducible refine And.intro ?_ ?_); (focus (exact ob1))))
    refine CallK.pd (h40z) ?_; simp only [push_cast, seval, kk, ofD]; (repeat ((with_reducible refine And.intro ?_ ?_); (focus (exact ob1))))
    refine hK _ ?_; clear hK; clear K
    refine mid_end [] _ rfl ?_
    exact ⟨by simp, by simp, by simp [push_cast, seval], by simp [push_cast, seval], by simp [push_cast, seval], by simp [push_cast, seval]⟩
  rintro _ rfl
  refine awp_mid (fun u => u = ⟨[(1, .d (.sl (shown.map encP))), (6, .d (.bool true))], []⟩) ?_ ?_
  · refine awpF_region ?_; intro K hK; simp only [push_cast, seval, kk]
    (repeat ((with_reducible refine And.intro ?_ ?_); (focus (first | (simp only [forall_eq_or_imp, forall_eq]; decide) | exact ob1))))
    refine CallK.pd (h33a) ?_; simp only [push_cast, seval, kk, ofD]; (repeat ((with_reducible refine And.intro ?_ ?_); (focus (first | (simp only [forall_eq_or_imp, forall_eq]; decide) | exact ob1))))
    refine CallK.pd (h33b) ?_; simp only [push_cast, seval, kk, ofD]; (repeat ((with_reducible refine And.intro ?_ ?_); (focus (first | (simp only [forall_eq_or_imp, forall_eq]; decide) | exact ob1))))
    refine hK _ ?_; clear hK; clear K
    refine mid_end [] _ rfl ?_
    exact ⟨by simp, by simp, by simp [push_cast, seval], by simp [push_cast, seval], by simp [push_cast, seval], by simp [push_cast, seval]⟩
  rintro _ rfl
  refine awp_mid (fun u => u = ⟨[(1, .d (.sl (shown.map encP))), (6, .d (.bool true)), (7, .d (.bool true))], []⟩) ?_ ?_
  · refine awpF_region ?_; intro K hK; simp only [push_cast, seval, kk]
    (repeat ((with_reducible refine And.intro ?_ ?_); (focus (exact ob1))))
    refine CallK.pd (h34) ?_; simp only [push_cast, seval, kk, ofD]; (repeat ((with_reducible refine And.intro ?_ ?_); (focus (exact ob1))))
    refine CallK.pd (h33a) ?_; simp only [push_cast, seval, kk, ofD]; (repeat ((with_reducible refine And.intro ?_ ?_); (focus (exact ob1))))
    refine CallK.pd (h36) ?_; simp only [push_cast, seval, kk, ofD]; (repeat ((with_reducible refine And.intro ?_ ?_); (focus (exact ob1))))
    refine CallK.pd (h33a) ?_; simp only [push_cast, seval, kk, ofD]; (repeat ((with_reducible refine And.intro ?_ ?_); (focus (exact ob1))))
    refine hK _ ?_; clear hK; clear K
    refine mid_end [] _ rfl ?_
    exact ⟨by simp, by simp, by simp [push_cast, seval], by simp [push_cast, seval], by simp [push_cast, seval], by simp [push_cast, seval]⟩
  rintro _ rfl
  refine awp_mid (fun u => u = ⟨[(1, .d (.sl (shown.map encP))), (6, .d (.bool true)), (7, .d (.bool true)), (8, .d (.bool true))], []⟩) ?_ ?_
  · refine awpF_region ?_; intro K hK; simp only [push_cast, seval, kk]
    (repeat ((with_reducible refine And.intro ?_ ?_); (focus (exact ob1))))
    refine CallK.pd (h38a) ?_; simp only [push_cast, seval, kk, ofD]; (repeat ((with_reducible refine And.intro ?_ ?_); (focus (exact ob1))))
    refine CallK.pd (h33a) ?_; simp only [push_cast, seval, kk, ofD]; (repeat ((with_reducible refine And.intro ?_ ?_); (focus (exact ob1))))
    refine CallK.pd (h38b) ?_; simp only [push_cast, seval, kk, ofD]; (repeat ((with_reducible refine And.intro ?_ ?_); (focus (exact ob1))))
    refine CallK.pd (h33b) ?_; simp only [push_cast, seval, kk, ofD]; (repeat ((with_reducible refine And.intro ?_ ?_); (focus (exact ob1))))
    refine CallK.pd (h38c) ?_; simp only [push_cast, seval, kk, ofD]; (repeat ((with_reducible refine And.intro ?_ ?_); (focus (exact ob1))))
    refine CallK.pd (h33c) ?_; simp only [push_cast, seval, kk, ofD]; (repeat ((with_reducible refine And.intro ?_ ?_); (focus (exact ob1))))
    refine hK _ ?_; clear hK; clear K
    refine mid_end [] _ rfl ?_
    exact ⟨by simp, by simp, by simp [push_cast, seval], by simp [push_cast, seval], by simp [push_cast, seval], by simp [push_cast, seval]⟩
  rintro _ rfl
  refine awp_mid (fun u => u = ⟨[(1, .d (.sl (shown.map encP))), (6, .d (.bool true)), (7, .d (.bool true)), (8, .d (.bool true)), (9, .d (.sl [[.sl [[.int .i64 0]]], [.sl [[.int .i64 1], [.int .i64 4]]], [.sl [[.int .i64 2], [.int .i64 3]]]])), (10, .d (.int .i64 0))], []⟩) ?_ ?_
  · refine awpF_region ?_; intro K hK; simp only [push_cast, seval, kk]
    (repeat ((with_reducible refine And.intro ?_ ?_); (focus (exact ob1))))
    refine CallK.pd (h17a) ?_; simp only [push_cast, seval, kk, ofD]; (repeat ((with_reducible refine And.intro ?_ ?_); (focus (exact ob1))))
    refine hK _ ?_; clear hK; clear K
    refine mid_end [] _ rfl ?_
    exact ⟨by simp, by simp, by simp [push_cast, seval], by simp [push_cast, seval], by simp [push_cast, seval], by simp [push_cast, seval]⟩
  rintro _ rfl
  refine awp_mid (fun u => u = ⟨[(1, .d (.sl (shown.map encP))), (6, .d (.bool true)), (7, .d (.bool true)), (8, .d (.bool true)), (9, .d (.sl [[.sl [[.int .i64 0]]], [.sl [[.int .i64 1], [.int .i64 4]]], [.sl [[.int .i64 2], [.int .i64 3]]]])), (10, .d (.int .i64 0)), (11, .d (.sl [[.sl [[.int .i64 0], [.int .i64 1], [.int .i64 2], [.int .i64 3], [.int .i64 4]]]])), (12, .d (.int .i64 0))], []⟩) ?_ ?_
  · refine awpF_region ?_; intro K hK; simp only [push_cast, seval, kk]
    (repeat ((with_reducible refine And.intro ?_ ?_); (focus (exact ob1))))
    refine CallK.pd (h17b) ?_; simp only [push_cast, seval, kk, ofD]; (repeat ((with_reducible refine And.intro ?_ ?_); (focus (exact ob1))))
    refine hK _ ?_; clear hK; clear K
    refine mid_end [] _ rfl ?_
    exact ⟨by simp, by simp, by simp [push_cast, seval], by simp [push_cast, seval], by simp [push_cast, seval], by simp [push_cast, seval]⟩
  rintro _ rfl
  refine awp_mid (fun u => u = ⟨[(1, .d (.sl (shown.map encP))), (6, .d (.bool true)), (7, .d (.bool true)), (8, .d (.bool true)), (13, .d (.bool true))], []⟩) ?_ ?_
  · refine awpF_region ?_; intro K hK; simp only [push_cast, seval, kk]
    (repeat ((with_reducible refine And.intro ?_ ?_); (focus (exact ob1))))
    refine CallK.pd (h19a) ?_; simp only [push_cast, seval, kk, ofD]; (repeat ((with_reducible refine And.intro ?_ ?_); (focus (exact ob1))))
    refine CallK.pd (h19b) ?_; simp only [push_cast, seval, kk, ofD]; (repeat ((with_reducible refine And.intro ?_ ?_); (focus (exact ob1))))
    refine hK _ ?_; clear hK; clear K
    refine mid_end [] _ rfl ?_
    exact ⟨by simp, by simp, by simp [push_cast, seval], by simp [push_cast, seval], by simp [push_cast, seval], by simp [push_cast, seval]⟩
  rintro _ rfl
  refine awp_mid (fun u => u = ⟨[(1, .d (.sl (shown.map encP))), (6, .d (.bool true)), (7, .d (.bool true)), (8, .d (.bool true)), (13, .d (.bool true)), (14, .d (.sl [[.int .i64 0, .int .i64 0, .int .i64 9], [.int .i64 2000, .int .i64 0, .int .i64 7]])), (15, .d (.int .i64 0))], []⟩) ?_ ?_
  · refine awpF_region ?_; intro K hK; simp only [push_cast, seval, kk]
    (repeat ((with_reducible refine And.intro ?_ ?_); (focus (exact ob1))))
    refine CallK.pd (h42) ?_; simp only [push_cast, seval, kk, ofD]; (repeat ((with_reducible refine And.intro ?_ ?_); (focus (exact ob1))))
    refine hK _ ?_; clear hK; clear K
    refine mid_end [] _ rfl ?_
    exact ⟨by simp, by simp, by simp [push_cast, seval], by simp [push_cast, seval], by simp [push_cast, seval], by simp [push_cast, seval]⟩
  rintro _ rfl
  refine awp_mid (fun u => u = ⟨[(1, .d (.sl (shown.map encP))), (6, .d (.bool true)), (7, .d (.bool true)), (8, .d (.bool true)), (13, .d (.bool true)), (16, .d (.bool true))], []⟩) ?_ ?_
  · refine awpF_region ?_; intro K hK; simp only [push_cast, seval, kk]
    (repeat ((with_reducible refine And.intro ?_ ?_); (focus (exact ob1))))
    refine CallK.pd (h20) ?_; simp only [push_cast, seval, kk, ofD]; (repeat ((with_reducible refine And.intro ?_ ?_); (focus (exact ob1))))
    refine CallK.pd (p44 _ _ k_bnd1) ?_; simp only [push_cast, seval, kk, ofD]; (repeat ((with_reducible refine And.intro ?_ ?_); (focus (exact ob1))))
    refine CallK.pd (p44 _ _ k_bnd0) ?_; simp only [push_cast, seval, kk, ofD]; (repeat ((with_reducible refine And.intro ?_ ?_); (focus (exact ob1))))
    refine hK _ ?_; clear hK; clear K
    refine mid_end [] _ rfl ?_
    exact ⟨by simp, by simp, by simp [push_cast, seval], by simp [push_cast, seval], by simp [push_cast, seval], by simp [push_cast, seval]⟩
  rintro _ rfl
  refine awp_mid (fun u => u = ⟨[(1, .d (.sl (shown.map encP))), (6, .d (.bool true)), (7, .d (.bool true)), (8, .d (.bool true)), (13, .d (.bool true)), (16, .d (.bool true)), (17, .d (.sl [[.int .i64 0, .int .i64 0], [.int .i64 2000, .int .i64 0], [.int .i64 2000, .int .i64 100], [.int .i64 300, .int .i64 400]]))], []⟩) ?_ ?_
  · refine awpF_region ?_; intro K hK; simp only [push_cast, seval, kk]
    (repeat ((with_reducible refine And.intro ?_ ?_); (focus (exact ob1))))
    refine CallK.pd (h49) ?_; simp only [push_cast, seval, kk, ofD]; (repeat ((with_reducible refine And.intro ?_ ?_); (focus (exact ob1))))
    refine hK _ ?_; clear hK; clear K
    refine mid_end [] _ rfl ?_
    exact ⟨by simp, by simp, by simp [push_cast, seval], by simp [push_cast, seval], by simp [push_cast, seval], by simp [push_cast, seval]⟩
  rintro _ rfl
  refine awp_mid (fun u => u = ⟨[(1, .d (.sl (shown.map encP))), (6, .d (.bool true)), (7, .d (.bool true)), (8, .d (.bool true)), (13, .d (.bool true)), (16, .d (.bool true)), (18, .d (.bool true))], []⟩) ?_ ?_
  · refine awpF_region ?_; intro K hK; simp only [push_cast, seval, kk]
    (repeat ((with_reducible refine And.intro ?_ ?_); (focus (exact ob1))))
    refine CallK.pd (h51) ?_; simp only [push_cast, seval, kk, ofD]; (repeat ((with_reducible refine And.intro ?_ ?_); (focus (exact ob1))))
    refine CallK.pd (h52) ?_; simp only [push_cast, seval, kk, ofD]; (repeat ((with_reducible refine And.intro ?_ ?_); (focus (exact ob1))))
    refine CallK.pd (h54a) ?_; simp only [push_cast, seval, kk, ofD]; (repeat ((with_reducible refine And.intro ?_ ?_); (focus (exact ob1))))
    refine CallK.pd (h54b) ?_; simp only [push_cast, seval, kk, ofD]; (repeat ((with_reducible refine And.intro ?_ ?_); (focus (exact ob1))))
    refine hK _ ?_; clear hK; clear K
    refine mid_end [] _ rfl ?_
    exact ⟨by simp, by simp, by simp [push_cast, seval], by simp [push_cast, seval], by simp [push_cast, seval], by simp [push_cast, seval]⟩
  rintro _ rfl
  refine awp_mid (fun u => u = ⟨[(1, .d (.sl (shown.map encP))), (6, .d (.bool true)), (7, .d (.bool true)), (8, .d (.bool true)), (13, .d (.bool true)), (16, .d (.bool true)), (18, .d (.bool true)), (19, .ptr 0 0 0), (20, .d (.bool true))], [.cells [.d (.int .i64 0), .d (.int .i64 0), .d (.int .i64 2000), .d (.int .i64 400)]]⟩) ?_ ?_
  · refine awpF_region ?_; intro K hK; simp only [push_cast, seval, kk]
    (repeat ((with_reducible refine And.intro ?_ ?_); (focus (exact ob1))))
    refine CallK.pd (h21) ?_; simp only [push_cast, seval, kk, ofD]; (repeat ((with_reducible refine And.intro ?_ ?_); (focus (exact ob1))))
    refine hK _ ?_; clear hK; clear K
    refine mid_end [0] _ rfl ?_
    exact ⟨by simp, by simp, by simp [push_cast, seval], by simp [push_cast, seval], by simp [push_cast, seval], by simp [push_cast, seval]⟩
  rintro _ rfl
  refine awp_mid (fun u => u = ⟨[(1, .d (.sl (shown.map encP))), (6, .d (.bool true)), (7, .d (.bool true)), (8, .d (.bool true)), (13, .d (.bool true)), (16, .d (.bool true)), (18, .d (.bool true)), (19, .ptr 0 0 0), (20, .d (.bool true)), (22, .d (.bool false))], [.cells [.d (.int .i64 0), .d (.int .i64 0), .d (.int .i64 2000), .d (.int .i64 400)]]⟩) ?_ ?_
  · refine awpF_region ?_; intro K hK; simp only [push_cast, seval, kk]
    (repeat ((with_reducible refine And.intro ?_ ?_); (focus (exact ob1))))
    refine CallK.pd (h21n) ?_; simp only [push_cast, seval, kk, ofD]; (repeat ((with_reducible refine And.intro ?_ ?_); (focus (exact ob1))))
    refine hK _ ?_; clear hK; clear K
    refine mid_end [0] _ rfl ?_
    exact ⟨by simp, by simp, by simp [push_cast, seval], by simp [push_cast, seval], by simp [push_cast, seval], by simp [push_cast, seval]⟩
  rintro _ rfl
  refine awp_mid (fun u => u = ⟨[(1, .d (.sl (shown.map encP))), (6, .d (.bool true)), (7, .d (.bool true)), (8, .d (.bool true)), (13, .d (.bool true)), (16, .d (.bool true)), (18, .d (.bool true)), (19, .ptr 0 0 0), (20, .d (.bool true)), (22, .d (.bool false)), (23, .d (.sl [[.int .i64 1, .int .i64 (-1), .int .i64 0], [.int .i64 301, .int .i64 399, .int .i64 5], [.int .i64 2001, .int .i64 (-1), .int .i64 0], [.int .i64 2001, .int .i64 99, .int .i64 7], [.int .i64 301, .int .i64 399, .int .i64 9]])), (24, .d (.int .i64 0))], [.cells [.d (.int .i64 0), .d (.int .i64 0), .d (.int .i64 2000), .d (.int .i64 400)]]⟩) ?_ ?_
  · refine awpF_region ?_; intro K hK; simp only [push_cast, seval, kk]
    (repeat ((with_reducible refine And.intro ?_ ?_); (focus (exact ob1))))
    refine CallK.pd (h23) ?_; simp only [push_cast, seval, kk, ofD]; (repeat ((with_reducible refine And.intro ?_ ?_); (focus (exact ob1))))
    refine hK _ ?_; clear hK; clear K
    refine mid_end [0] _ rfl ?_
    exact ⟨by simp, by simp, by simp [push_cast, seval], by simp [push_cast, seval], by simp [push_cast, seval], by simp [push_cast, seval]⟩
  rintro _ rfl
  refine awp_mid (fun u => u = ⟨[(1, .d (.sl (shown.map encP))), (6, .d (.bool true)), (7, .d (.bool true)), (8, .d (.bool true)), (13, .d (.bool true)), (16, .d (.bool true)), (18, .d (.bool true)), (23, .d (.sl [[.int .i64 1, .int .i64 (-1), .int .i64 0], [.int .i64 301, .int .i64 399, .int .i64 5], [.int .i64 2001, .int .i64 (-1), .int .i64 0], [.int .i64 2001, .int .i64 99, .int .i64 7], [.int .i64 301, .int .i64 399, .int .i64 9]])), (25, .d (.bool true))], []⟩) ?_ ?_
  · refine awpF_region ?_; intro K hK; simp only [push_cast, seval, kk]
    (repeat ((with_reducible refine And.intro ?_ ?_); (focus (first | (simp only [forall_eq_or_imp, forall_eq]; decide) | exact ob1))))
    refine hK _ ?_; clear hK; clear K
    refine mid_end [] _ rfl ?_
    exact ⟨by simp, by simp, by simp [push_cast, seval], by simp [push_cast, seval], by simp [push_cast, seval], by simp [push_cast, seval]⟩
  rintro _ rfl
  refine awp_mid (fun u => u = ⟨[(1, .d (.sl (shown.map encP))), (6, .d (.bool true)), (7, .d (.bool true)), (8, .d (.bool true)), (13, .d (.bool true)), (16, .d (.bool true)), (18, .d (.bool true)), (23, .d (.sl [[.int .i64 1, .int .i64 (-1), .int .i64 0], [.int .i64 301, .int .i64 399, .int .i64 5], [.int .i64 2001, .int .i64 (-1), .int .i64 0], [.int .i64 2001, .int .i64 99, .int .i64 7], [.int .i64 301, .int .i64 399, .int .i64 9]]))], []⟩) ?_ ?_
  · refine awp_seq ?_
    refine awpF_region ?_; intro K hK; simp only [push_cast, seval, kk]
    (repeat ((with_reducible refine And.intro ?_ ?_); (focus (exact ob1))))
    refine hK _ ?_; clear hK; clear K
    apply awp_cond; (focus (simp only [push_cast, seval]; rfl))
    · intro h
      cases h
    intro _
    refine awp_skip ?_
    refine mid_end [] _ rfl ?_
    exact ⟨by simp, by simp, by simp [push_cast, seval], by simp [push_cast, seval], by simp [push_cast, seval], by simp [push_cast, seval]⟩
  rintro _ rfl
  refine awp_mid (fun u => u = ⟨[(1, .d (.sl (shown.map encP))), (6, .d (.bool true)), (7, .d (.bool true)), (8, .d (.bool true)), (13, .d (.bool true)), (16, .d (.bool true)), (18, .d (.bool true)), (26, .ptr 0 0 0), (27, .d (.int .i64 5)), (28, .d (.int .i64 0))], [.cells [.d (.int .i64 (-1)), .d (.int .i64 1)]]⟩) ?_ ?_
  · refine awpF_region ?_; intro K hK; simp only [push_cast, seval, kk]
    (repeat ((with_reducible refine And.intro ?_ ?_); (focus (exact ob1))))
    refine CallK.pd (h27) ?_; simp only [push_cast, seval, kk, ofD]; (repeat ((with_reducible refine And.intro ?_ ?_); (focus (exact ob1))))
    refine hK _ ?_; clear hK; clear K
    refine mid_end [0] _ rfl ?_
    exact ⟨by simp, by simp, by simp [push_cast, seval], by simp [push_cast, seval], by simp [push_cast, seval], by simp [push_cast, seval]⟩
  rintro _ rfl
  refine awp_seq ?_
  refine awpF_region ?_; intro K hK; simp only [push_cast, seval, kk]
  (repeat ((with_reducible refine And.intro ?_ ?_); (focus (exact ob1))))
  refine CallK.pd (h29a) ?_; simp only [push_cast, seval, kk, ofD]; (repeat ((with_reducible refine And.intro ?_ ?_); (focus (exact ob1))))
  refine CallK.pd (h29b) ?_; simp only [push_cast, seval, kk, ofD]; (repeat ((with_reducible refine And.intro ?_ ?_); (focus (exact ob1))))
  refine hK _ ?_; clear hK; clear K
  refine awp_ret ?_; (repeat (first | refine then_ret ?_ | refine inblock_ret ?_)); refine fin_of (by simp only [push_cast, seval]; first | done | rfl) ob1 ?_
  rfl
end Go.Aw
