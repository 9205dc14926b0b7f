/-
  Contract of digits. No condition.
-/
import Derived.Test.YtmmnjelmahcbaaaN14
import Derived.Test.YtmmnjelmahcbaaaRlC
namespace Go.Aw
set_option linter.unusedSimpArgs false
set_option linter.unusedVariables false
open Go.RowKit Go.Proofs Go.Nt Go.Rl

def encB (x : Nat) : List D := [.int .u8 ((48 + x : Nat) : Int)]
/-- The text of digits. -/
def digT (ds : List Nat) : ByteArray := ⟨((digB ds).map UInt8.ofNat).toArray⟩
def digOk (n k rn rd d : Int) : Bool := rateB rn rd && fairB n k && decide (1 ≤ d ∧ d ≤ 40)
def digS (n k rn rd d : Int) : ByteArray := digT (dig (rd.toNat ^ n.toNat) (d.toNat + 1) (lo rn.toNat (rd - rn).toNat n.toNat (k.toNat + 1)))

theorem digT_eq (x : Nat) (l : List Nat) : bytesOf ([x].map encB) ++ (⟨#[46]⟩ : ByteArray) ++ bytesOf (l.map encB) = digT (x :: l) := by
  apply ByteArray.ext
  simp only [ByteArray.data_append, bytesOf, strOfNums, digT, digB, List.map_map, List.map_cons, List.map_nil]
  apply Array.ext'
  simp [encB, byteN, Function.comp_def]
  have key : ∀ a : Nat, UInt8.ofNat ((48 : Int) + a).toNat = 48 + UInt8.ofNat a := fun a => by
    rw [show ((48 : Int) + a).toNat = 48 + a by omega, UInt8.ofNat_add]; rfl
  exact ⟨key x, fun a _ => key a⟩

theorem p15 (n k rn rd d : Int) : PD Try.prog 15 [.int .i64 n, .int .i64 k, .agg [.int .i64 rn, .int .i64 rd], .int .i64 d] (.tup [.d (.str (if digOk n k rn rd d then digS n k rn rd d else ⟨#[]⟩)), .d (.int .i64 (if digOk n k rn rd d then 0 else 2))]) := by
  refine pd_of (fn := Try.f15) [.tmp 8, .tmp 9] (by kernel_rfl) rfl (by kernel_rfl) (Nat.le_of_ble_eq_true rfl) (by kernel_rfl) rfl rfl ?_
  refine awp_seq ?_
  refine awpF_region ?_; intro K hK; simp only [push_cast, seval]; (try simp (disch := omega) only [wrapI]); (repeat ((with_reducible refine And.intro ?_ ?_); (focus (first | omega | trivial | assumption | (intro _ hrow; obtain ⟨_, _, rfl⟩ := List.mem_map.1 hrow; rfl) | ((intros; repeat' apply And.intro) <;> first | omega | trivial | assumption | (intro _ hrow; obtain ⟨_, _, rfl⟩ := List.mem_map.1 hrow; rfl) | (simp_all; done) | (simp_all; omega)))))); refine hK _ ?_; clear hK; clear K
  refine awp_seq ?_
  refine awp_seq ?_
  refine awpF_region ?_; intro K hK; simp only [push_cast, seval]
  refine CallK.pd (p17 rn rd) ?_
  simp only [push_cast, seval, rate_ne, bif_or]
  refine CallK.pg (fun _ => p51 n k) ?_
  simp only [push_cast, seval, bif_or, Bool.not_not]
  refine ⟨by simp, ?_⟩
  (repeat ((with_reducible refine And.intro ?_ ?_); (focus (first | omega | trivial | assumption | (intro _ hrow; obtain ⟨_, _, rfl⟩ := List.mem_map.1 hrow; rfl) | ((intros; repeat' apply And.intro) <;> first | omega | trivial | assumption | (intro _ hrow; obtain ⟨_, _, rfl⟩ := List.mem_map.1 hrow; rfl) | (simp_all; done) | (simp_all; omega))))))
  refine hK _ ?_; clear hK; clear K
  apply awp_cond; (focus (simp only [push_cast, seval]; rfl))
  · intro h1; (try simp only [decide_eq_true_eq, decide_eq_false_iff_not, Bool.not_eq_true', Bool.not_eq_false', Bool.and_eq_true, Bool.or_eq_true, Bool.not_eq_true] at h1)
    refine awp_seq ?_
    refine awpF_region ?_; intro K hK; simp only [push_cast, seval]; (try simp (disch := omega) only [wrapI]); (repeat ((with_reducible refine And.intro ?_ ?_); (focus (first | omega | trivial | assumption | (intro _ hrow; obtain ⟨_, _, rfl⟩ := List.mem_map.1 hrow; rfl) | ((intros; repeat' apply And.intro) <;> first | omega | trivial | assumption | (intro _ hrow; obtain ⟨_, _, rfl⟩ := List.mem_map.1 hrow; rfl) | (simp_all; done) | (simp_all; omega)))))); refine hK _ ?_; clear hK; clear K
    refine awp_ret ?_; (repeat (first | refine then_ret ?_ | refine inblock_ret ?_)); refine fin_of (by simp only [push_cast, seval]; first | done | rfl) (by first | trivial | first | omega | trivial | assumption | (intro _ hrow; obtain ⟨_, _, rfl⟩ := List.mem_map.1 hrow; rfl) | ((intros; repeat' apply And.intro) <;> first | omega | trivial | assumption | (intro _ hrow; obtain ⟨_, _, rfl⟩ := List.mem_map.1 hrow; rfl) | (simp_all; done) | (simp_all; omega))) ?_
    have : digOk n k rn rd d = false := by
      unfold digOk
      rcases h1 with ((h1 | h1) | h1) | h1
      · rw [h1]; rfl
      · rw [h1]; simp
      · rw [decide_eq_false (by omega)]; simp
      · rw [decide_eq_false (by omega)]; simp
    rw [this]
    rfl
  · intro h1; (try simp only [decide_eq_true_eq, decide_eq_false_iff_not, Bool.not_eq_true', Bool.not_eq_false', Bool.and_eq_true, Bool.or_eq_true, Bool.not_eq_true] at h1)
    simp only [Bool.or_eq_false_iff, Bool.not_eq_false', decide_eq_false_iff_not] at h1
    obtain ⟨⟨⟨hr, hnk⟩, hd1⟩, hd2⟩ := h1
    have hok : digOk n k rn rd d = true := by unfold digOk; rw [hr, hnk, decide_eq_true (by omega)]; rfl
    rw [hok]
    have h52 := p52l n k rn rd hr hnk
    have h53 := p53i n k rn rd hr hnk
    unfold digS
    obtain ⟨a1, a2, a3, a4⟩ := rateB_iff.1 hr
    obtain ⟨b1, b2, b3⟩ := fairB_iff.1 hnk
    have hle : lo rn.toNat (rd - rn).toNat n.toNat (k.toNat + 1) ≤ rd.toNat ^ n.toNat := by
      have := lo_le rn.toNat (rd - rn).toNat n.toNat (k.toNat + 1)
      rwa [show rn.toNat + (rd - rn).toNat = rd.toNat by omega] at this
    have hwn : nw (rd.toNat ^ n.toNat) ≤ 10 := nw_pow (by omega) (by omega)
    have hwp : 0 < rd.toNat ^ n.toNat := Nat.pow_pos (by omega)
    generalize lo rn.toNat (rd - rn).toNat n.toNat (k.toNat + 1) = rest0 at h52 hle ⊢
    generalize rd.toNat ^ n.toNat = w at h53 hle hwn hwp ⊢
    obtain ⟨d, rfl⟩ : ∃ x : Nat, d = x := ⟨d.toNat, by omega⟩
    have hwd : IntKind.i64.wrap ((d : Int) + 1) = (d : Int) + 1 := wrapI _ (by omega)
    rw [Int.toNat_natCast]
    clear hok hr hnk
    refine awp_skip ?_
    refine awp_seq ?_
    refine awpF_draw [0,1,2,4,5,6,3,7,8,9] (by kernel_rfl) (by kernel_rfl) rfl ?_; intro K hK; simp only [push_cast, seval]
    refine CallK.pd (h52) ?_; simp only [push_cast, seval]; (try simp (disch := omega) only [wrapI]); (repeat ((with_reducible refine And.intro ?_ ?_); (focus (first | omega | trivial | assumption | (intro _ hrow; obtain ⟨_, _, rfl⟩ := List.mem_map.1 hrow; rfl) | ((intros; repeat' apply And.intro) <;> first | omega | trivial | assumption | (intro _ hrow; obtain ⟨_, _, rfl⟩ := List.mem_map.1 hrow; rfl) | (simp_all; done) | (simp_all; omega))))))
    refine CallK.pd (h53) ?_; simp only [push_cast, seval]; (try simp (disch := omega) only [wrapI]); (repeat ((with_reducible refine And.intro ?_ ?_); (focus (first | omega | trivial | assumption | (intro _ hrow; obtain ⟨_, _, rfl⟩ := List.mem_map.1 hrow; rfl) | ((intros; repeat' apply And.intro) <;> first | omega | trivial | assumption | (intro _ hrow; obtain ⟨_, _, rfl⟩ := List.mem_map.1 hrow; rfl) | (simp_all; done) | (simp_all; omega))))))
    refine hK _ ?_; clear hK; clear K
    refine awp_seq ?_
    refine awpF_region ?_; intro K hK; simp only [push_cast, seval]; (try simp (disch := omega) only [wrapI]); (repeat ((with_reducible refine And.intro ?_ ?_); (focus (first | omega | trivial | assumption | (intro _ hrow; obtain ⟨_, _, rfl⟩ := List.mem_map.1 hrow; rfl) | ((intros; repeat' apply And.intro) <;> first | omega | trivial | assumption | (intro _ hrow; obtain ⟨_, _, rfl⟩ := List.mem_map.1 hrow; rfl) | (simp_all; done) | (simp_all; omega)))))); refine hK _ ?_; clear hK; clear K
    refine awp_seq ?_
    refine awp_seq ?_
    refine awpF_region ?_; intro K hK; simp only [push_cast, seval, hwd]; (try simp (disch := omega) only [wrapI]); (repeat ((with_reducible refine And.intro ?_ ?_); (focus (first | omega | trivial | assumption | (intro _ hrow; obtain ⟨_, _, rfl⟩ := List.mem_map.1 hrow; rfl) | ((intros; repeat' apply And.intro) <;> first | omega | trivial | assumption | (intro _ hrow; obtain ⟨_, _, rfl⟩ := List.mem_map.1 hrow; rfl) | (simp_all; done) | (simp_all; omega)))))); refine hK _ ?_; clear hK; clear K
    refine awp_virt 12 1 rfl ?_
    simp only [push_cast, seval]
    refine awp_block ?_
    refine awp_loopP (st := fun (p : Nat × Nat × List Nat) => ⟨[(10, .d (Go.Aw.D.sl ((digs B64 (p.2.1)).map encW))), (11, .d (Go.Aw.D.sl ((digs B64 (w)).map encW))), (12, .ref 0 0 p.1), (40, .d (.int .i64 ((d : Int) + 1))), (41, .d (.int .i64 p.1))], [.data 1 (p.2.2.map encB)]⟩)
      (inv := fun p => p.1 ≤ d + 1 ∧ p.2.1 < 10 * w ∧ p.2.2.length = p.1 ∧ p.2.2 ++ dig w (d + 1 - p.1) p.2.1 = dig w (d + 1) rest0) (μ := fun p => d + 1 - p.1) (x0 := (0, rest0, [])) (r0 := [1]) ?_ ?_ ?_
    · exact ⟨Nat.zero_le _, by dsimp only; omega, rfl, rfl⟩
    · exact ⟨by simp, by simp, by simp [push_cast, seval], by simp [push_cast, seval], by simp [push_cast, seval], by simp [push_cast, seval]⟩
    rintro ⟨i, rest, ds⟩ ⟨hi, hrest, hds, hdig⟩
    dsimp only at hi hrest hds hdig
    refine awp_seq ?_
    refine awpF_region ?_; intro K hK; simp only [push_cast, seval]; (try simp (disch := omega) only [wrapI]); (repeat ((with_reducible refine And.intro ?_ ?_); (focus (first | omega | trivial | assumption | (intro _ hrow; obtain ⟨_, _, rfl⟩ := List.mem_map.1 hrow; rfl) | ((intros; repeat' apply And.intro) <;> first | omega | trivial | assumption | (intro _ hrow; obtain ⟨_, _, rfl⟩ := List.mem_map.1 hrow; rfl) | (simp_all; done) | (simp_all; omega)))))); refine hK _ ?_; clear hK; clear K
    refine awp_seq ?_
    apply awp_cond; (focus (simp only [push_cast, seval]; rfl))
    · intro h2; (try simp only [decide_eq_true_eq, decide_eq_false_iff_not, Bool.not_eq_true', Bool.not_eq_false', Bool.and_eq_true, Bool.or_eq_true, Bool.not_eq_true] at h2)
      have hlt : i < d + 1 := by omega
      refine awp_skip ?_
      refine awp_seq ?_
      refine awp_block ?_
      refine awp_seq ?_
      refine awpF_region ?_; intro K hK; simp only [push_cast, seval]; (try simp (disch := omega) only [wrapI]); (repeat ((with_reducible refine And.intro ?_ ?_); (focus (first | omega | trivial | assumption | (intro _ hrow; obtain ⟨_, _, rfl⟩ := List.mem_map.1 hrow; rfl) | ((intros; repeat' apply And.intro) <;> first | omega | trivial | assumption | (intro _ hrow; obtain ⟨_, _, rfl⟩ := List.mem_map.1 hrow; rfl) | (simp_all; done) | (simp_all; omega)))))); refine hK _ ?_; clear hK; clear K
      refine awp_seq ?_
      refine awp_block ?_
      have hq : rest / w < 10 := (Nat.div_lt_iff_lt_mul hwp).2 hrest
      have hstep : dig w (d + 1 - i) rest = rest / w :: dig w (d + 1 - (i + 1)) (rest % w * 10) := by
        rw [show d + 1 - i = d + 1 - (i + 1) + 1 by omega]; rfl
      have nwr : ∀ x, x ≤ rest → nw x ≤ 11 := fun x hx => by
        have h1 := nw_mono (show x ≤ 10 * w by omega)
        have h2 := nw_mul 10 w
        have h3 : nw 10 ≤ 1 := digs_len (by decide) 1 10 (by decide)
        omega
      refine awp_loopP (st := fun (q : Nat) => ⟨[(10, .d (Go.Aw.D.sl ((digs B64 (rest - q * w)).map encW))), (11, .d (Go.Aw.D.sl ((digs B64 (w)).map encW))), (12, .ref 0 0 i), (13, .d (.int .u8 ((48 + q : Nat) : Int))), (40, .d (.int .i64 ((d : Int) + 1))), (41, .d (.int .i64 i))], [.data 1 (ds.map encB)]⟩)
        (inv := fun q => q ≤ rest / w) (μ := fun q => rest / w - q) (x0 := 0) (r0 := [0]) ?_ ?_ ?_
      · exact Nat.zero_le _
      · rw [Nat.zero_mul, Nat.sub_zero]; exact ⟨by simp, by simp, by simp [push_cast, seval], by simp [push_cast, seval], by simp [push_cast, seval], by simp [push_cast, seval]⟩
      intro q hqr
      have hqm : q * w ≤ rest := Nat.le_trans (Nat.mul_le_mul_right w hqr) (Nat.div_mul_le_self rest w)
      have h54 := p54 (rest - q * w) w (Nat.le_trans (nwr _ (Nat.sub_le _ _)) (by decide)) (Nat.le_trans hwn (by decide))
      refine awp_seq ?_
      refine awp_seq ?_
      refine awpF_region ?_; intro K hK; simp only [push_cast, seval]
      refine CallK.rel h54 ?_
      intro x' H' hR
      obtain ⟨c, hx', hH', hc1, hc2⟩ := hR
      subst hx'
      subst hH'
      simp only [push_cast, seval]
      refine hK _ ?_; clear hK; clear K
      apply awp_cond; (focus (simp only [push_cast, seval]; rfl))
      · intro h3; (try simp only [decide_eq_true_eq, decide_eq_false_iff_not, Bool.not_eq_true', Bool.not_eq_false', Bool.and_eq_true, Bool.or_eq_true, Bool.not_eq_true] at h3)
        have hge : w ≤ rest - q * w := by omega
        have hqs : (q + 1) * w ≤ rest := by rw [Nat.succ_mul]; omega
        have hq1 : q + 1 ≤ rest / w := (Nat.le_div_iff_mul_le hwp).2 hqs
        have h55 := p55 (rest - q * w) w (Nat.le_trans (nwr _ (Nat.sub_le _ _)) (by decide)) hge
        rw [show rest - q * w - w = rest - (q + 1) * w by rw [Nat.succ_mul]; omega] at h55
        have hwq : IntKind.u8.wrap ((48 : Int) + q + 1) = (48 : Int) + (q + 1) := by rw [IntKind.wrap_u8]; omega
        refine awp_skip ?_
        refine awp_block ?_
        refine awp_seq ?_
        refine awpF_region ?_; intro K hK; simp only [push_cast, seval]
        refine CallK.pd (h55) ?_; simp only [push_cast, seval]; (try simp (disch := omega) only [wrapI]); (repeat ((with_reducible refine And.intro ?_ ?_); (focus (first | omega | trivial | assumption | (intro _ hrow; obtain ⟨_, _, rfl⟩ := List.mem_map.1 hrow; rfl) | ((intros; repeat' apply And.intro) <;> first | omega | trivial | assumption | (intro _ hrow; obtain ⟨_, _, rfl⟩ := List.mem_map.1 hrow; rfl) | (simp_all; done) | (simp_all; omega))))))
        refine hK _ ?_; clear hK; clear K
        refine awpF_region ?_; intro K hK; simp only [push_cast, seval, hwq]; (try simp (disch := omega) only [wrapI]); (repeat ((with_reducible refine And.intro ?_ ?_); (focus (first | omega | trivial | assumption | (intro _ hrow; obtain ⟨_, _, rfl⟩ := List.mem_map.1 hrow; rfl) | ((intros; repeat' apply And.intro) <;> first | omega | trivial | assumption | (intro _ hrow; obtain ⟨_, _, rfl⟩ := List.mem_map.1 hrow; rfl) | (simp_all; done) | (simp_all; omega)))))); refine hK _ ?_; clear hK; clear K
        refine inblock_norm ?_
        refine round_end (y := q + 1) (r := [0]) (by omega) hq1 ?_
        exact ⟨by simp, by simp, by simp [push_cast, seval], by simp [push_cast, seval], by simp [push_cast, seval], by simp [push_cast, seval]⟩
      · intro h3; (try simp only [decide_eq_true_eq, decide_eq_false_iff_not, Bool.not_eq_true', Bool.not_eq_false', Bool.and_eq_true, Bool.or_eq_true, Bool.not_eq_true] at h3)
        have hlt2 : rest - q * w < w := by omega
        have hqe : q = rest / w := by
          refine Nat.le_antisymm hqr ?_
          have h5 : rest < (q + 1) * w := by rw [Nat.succ_mul]; omega
          have := (Nat.div_lt_iff_lt_mul hwp).2 h5
          omega
        have hmod : rest - q * w = rest % w := by
          have := Nat.div_add_mod rest w
          rw [hqe]
          rw [Nat.mul_comm] at this
          omega
        have h56 := p56 (rest % w) 10 (Nat.le_trans (nwr _ (Nat.mod_le _ _)) (by decide)) (by decide)
        refine awp_exit ?_; (repeat (first | refine then_exit ?_ | refine inblock_other (by decide) ?_)); refine inblock_same ?_
        refine awp_seq ?_
        refine awpF_region ?_; intro K hK; simp only [push_cast, seval]
        refine ⟨fun h => h, by omega, by omega, ?_⟩
        rw [show List.take i (ds.map encB) ++ [[D.int .u8 (48 + (q : Int))]] = (ds ++ [q]).map encB by
          rw [List.take_of_length_le (by simp; omega), List.map_append]; rfl]
        refine hK _ ?_; clear hK; clear K
        rw [hmod]
        refine awpF_region ?_; intro K hK; simp only [push_cast, seval]
        refine CallK.pd (h56) ?_; simp only [push_cast, seval]; (try simp (disch := omega) only [wrapI]); (repeat ((with_reducible refine And.intro ?_ ?_); (focus (first | omega | trivial | assumption | (intro _ hrow; obtain ⟨_, _, rfl⟩ := List.mem_map.1 hrow; rfl) | ((intros; repeat' apply And.intro) <;> first | omega | trivial | assumption | (intro _ hrow; obtain ⟨_, _, rfl⟩ := List.mem_map.1 hrow; rfl) | (simp_all; done) | (simp_all; omega))))))
        refine hK _ ?_; clear hK; clear K
        refine inblock_norm ?_
        refine awpF_region ?_; intro K hK; simp only [push_cast, seval]; (try simp (disch := omega) only [wrapI]); (repeat ((with_reducible refine And.intro ?_ ?_); (focus (first | omega | trivial | assumption | (intro _ hrow; obtain ⟨_, _, rfl⟩ := List.mem_map.1 hrow; rfl) | ((intros; repeat' apply And.intro) <;> first | omega | trivial | assumption | (intro _ hrow; obtain ⟨_, _, rfl⟩ := List.mem_map.1 hrow; rfl) | (simp_all; done) | (simp_all; omega)))))); refine hK _ ?_; clear hK; clear K
        refine round_end (y := (i + 1, rest % w * 10, ds ++ [q])) (r := [0]) (by dsimp only; omega) ⟨by dsimp only; omega, ?_, by simp [hds], ?_⟩ ?_
        · have := Nat.mod_lt rest hwp
          dsimp only; omega
        · rw [← hdig, hstep, hqe, List.append_assoc]; rfl
        · exact ⟨by simp, by simp, by simp [push_cast, seval], by simp [push_cast, seval], by simp [push_cast, seval], by simp [push_cast, seval]⟩
    · intro h2; (try simp only [decide_eq_true_eq, decide_eq_false_iff_not, Bool.not_eq_true', Bool.not_eq_false', Bool.and_eq_true, Bool.or_eq_true, Bool.not_eq_true] at h2)
      obtain rfl : i = d + 1 := by omega
      have hkb : kbyt Try.prog 78 = true := by kernel_rfl
      rw [Nat.sub_self] at hdig
      simp only [dig, List.append_nil] at hdig
      obtain ⟨x, l, rfl⟩ : ∃ x l, ds = x :: l := by
        cases ds with
        | nil => simp at hds
        | cons x l => exact ⟨x, l, rfl⟩
      have hb1 : bytesOk ((x :: l).map encB) := fun row hrow => by
        obtain ⟨y, _, rfl⟩ := List.mem_map.1 hrow; rfl
      refine awp_exit ?_; (repeat (first | refine then_exit ?_ | refine inblock_other (by decide) ?_)); refine inblock_same ?_
      refine awp_seq ?_
      have hl : l.length = d := by simpa using hds
      have hdt : ((d : Int) + 1).toNat - 1 = d := by omega
      have htk : List.take d (l.map encB) = l.map encB := List.take_of_length_le (by simp; omega)
      have hb2 : bytesOk (l.map encB) := fun row hrow => hb1 row (by simp only [List.map_cons, List.mem_cons]; exact .inr hrow)
      have hb3 : bytesOk [encB x] := fun row hrow => hb1 row (by simp only [List.mem_cons, List.not_mem_nil, or_false] at hrow; simp [hrow])
      have hs1 : (bytesOf [encB x]).size = 1 := by simp [bytesOf, strOfNums_size]
      have hs2 : (bytesOf (l.map encB)).size = d := by simp [bytesOf, strOfNums_size, hl]
      have hs3 : (bytesOf [encB x] ++ (⟨#[46]⟩ : ByteArray)).size = 2 := by rw [ByteArray.size_append, hs1]; rfl
      have hs4 : (⟨#[46]⟩ : ByteArray).size = 1 := rfl
      refine awpF_draw [0,1,2,3,4,5,6,7,8,9] (by kernel_rfl) (by kernel_rfl) rfl ?_; intro K hK; simp only [push_cast, seval, hkb, hdt, htk, hs1, hs2, hs3, hs4]
      (repeat ((with_reducible refine And.intro ?_ ?_); (focus (first | omega | trivial | assumption | (intro _ hrow; obtain ⟨_, _, rfl⟩ := List.mem_map.1 hrow; rfl) | ((intros; repeat' apply And.intro) <;> first | omega | trivial | assumption | (intro _ hrow; obtain ⟨_, _, rfl⟩ := List.mem_map.1 hrow; rfl) | (simp_all; done) | (simp_all; omega))))))
      refine hK _ ?_; clear hK; clear K
      refine awp_ret ?_; (repeat (first | refine then_ret ?_ | refine inblock_ret ?_)); refine fin_of (by simp only [push_cast, seval]; first | done | rfl) (by first | trivial | first | omega | trivial | assumption | (intro _ hrow; obtain ⟨_, _, rfl⟩ := List.mem_map.1 hrow; rfl) | ((intros; repeat' apply And.intro) <;> first | omega | trivial | assumption | (intro _ hrow; obtain ⟨_, _, rfl⟩ := List.mem_map.1 hrow; rfl) | (simp_all; done) | (simp_all; omega))) ?_
      rw [show dig w (d + 1) rest0 = x :: l from hdig.symm, ← digT_eq]
      rfl
end Go.Aw
