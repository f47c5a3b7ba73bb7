/- The program's ArePrices answers as the reference's does, for every three prices; no conditions. -/
import Derived.Test.YthmmjbhilnldeaaPFnExactArePricesx1
namespace Go.Proofs.Ythmmjbhilnldeaa.Pure
open Go.RowKit Go.Proofs.Ythmmjbhilnldeaa.PFnExactArePrices Go.Proofs.YthmmjbhilnldeaaW.PrintWords Go.Proofs.YthmmjbhilnldeaaW.PrintLast
set_option linter.unusedVariables false

theorem l1In_some (a b c : Int) : spec_l1In.f a b c = some (decide (b ≤ a ∧ a ≤ c)) := by
  unfold spec_l1In.f
  by_cases h : a ≥ b
  · rw [if_pos h]; congr 1; rw [Bool.eq_iff_iff]; simp; omega
  · rw [if_neg h]; congr 1; symm; rw [decide_eq_false_iff_not]; omega

theorem within_some (a b c : Int) : impl_within.f a b c = some (decide (b ≤ a ∧ a ≤ c)) := by
  unfold impl_within.f
  by_cases h : a ≥ b
  · rw [if_pos h]; congr 1; rw [Bool.eq_iff_iff]; simp; omega
  · rw [if_neg h]; congr 1; symm; rw [decide_eq_false_iff_not]; omega

theorem FnExactArePrices (a b c : Int) : ∃ k, laws_FnExactArePrices.f k a b c = some true := by
  refine ⟨10, ?_⟩
  unfold laws_FnExactArePrices.f laws_toPrices.f spec_ArePrices.f spec_csGood.f spec_l1All.f impl_ArePrices.f impl_isPrice.f
  simp only [Option.bind_some, within_some, spec_l1All.l0, l1In_some, List.length_cons, List.length_nil]
  by_cases ha : 0 ≤ a ∧ a ≤ 1000 <;> by_cases hb : 0 ≤ b ∧ b ≤ 1000 <;> by_cases hc : 0 ≤ c ∧ c ≤ 1000 <;>
    simp [rd, wrap64, ha, hb, hc]

end Go.Proofs.Ythmmjbhilnldeaa.Pure
