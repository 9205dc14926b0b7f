/-
  RulesStays answers true. Conditions: lengths and numbers that a call can have.
-/
import Derived.Test.YtlimahhonfckdaaGreatDoorPxU44a
import Derived.Test.YtlimahhonfckdaaGreatDoorRuF
import Derived.Test.YtlimahhonfckdaaGreatDoorRuI
namespace Go.Aw
set_option linter.unusedSimpArgs false
set_option linter.unusedVariables false
open Go.RowKit Go.Proofs
set_option maxRecDepth 100000

theorem hz_ok {f:List Nd} {t:Fm} (h:shE f 12=0) : hzE f t=t.hz:=by rw [hzE,if_pos h]
theorem node_wide {n:Nd} {w:Int} (hw:w≤12) (h:nodeE n w=0) : nodeE n 12=0:=by
  obtain ⟨op,l,r,k,lo,hi⟩:=n
  unfold nodeE at h ⊢
  split at h
  · cases h
  · rename_i h1
    rw [if_neg h1]
    split at h
    · cases h
    · rename_i h2
      rw [if_neg h2]
      split at h
      · rename_i h3
        have:fairN ⟨op,l,r,k,lo,hi⟩ 12=true:=by
          simp only [fairN] at h3 ⊢
          split
          · rename_i h4
            rw [if_pos h4] at h3
            simp at h3 ⊢
            omega
          · rename_i h4
            rw [if_neg h4] at h3
            exact h3
        rw [if_pos this]
      · cases h
theorem rule_sh12 (l:List Int) {w most:Int} (hw:1≤w∧w≤12) (hm:0≤most∧most≤20) : shE (ruleT l w most).flat 12=0 :=
  sh_of ⟨by decide,by decide⟩ (rule_W l hw hm).wf (fun n hn=>node_wide hw.2 ((rule_W l hw hm).nodes n hn)) (by have:=rule_len l hw hm; omega)
end Go.Aw
