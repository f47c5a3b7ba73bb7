/- The program's CountPairs answers as the reference's does, for every number of floors; no conditions. -/
import Derived.Test.YthmmjbhilnldeaaPFnExactCountPairsx1
namespace Go.Proofs.Ythmmjbhilnldeaa.Pure
open Go.RowKit Go.Proofs.Ythmmjbhilnldeaa.PFnExactCountPairs Go.Proofs.YthmmjbhilnldeaaW.PrintWords Go.Proofs.YthmmjbhilnldeaaW.PrintLast
set_option linter.unusedVariables false

theorem FnExactCountPairs : laws_FnExactCountPairs.Pure := by
  intro a0 _
  have e : spec_CountPairs.f a0 = impl_CountPairs.f a0 := rfl
  obtain ⟨r, hr⟩ : ∃ r, impl_CountPairs.f a0 = some r := by
    unfold impl_CountPairs.f impl_isKindFloors.f impl_within.f
    by_cases h : a0 ≥ 0
    · rw [if_pos h]; simp only [Option.bind_some]
      split <;> exact ⟨_, rfl⟩
    · rw [if_neg h]; simp only [Option.bind_some]
      exact ⟨_, rfl⟩
  unfold laws_FnExactCountPairs.f
  rw [e, hr]; simp

end Go.Proofs.Ythmmjbhilnldeaa.Pure
