/- The program's DoesBreak answers as the reference's does, for every floors, breaks and floor; no conditions. -/
import Derived.Test.YthmmjbhilnldeaaPFnExactDoesBreakx1
namespace Go.Proofs.Ythmmjbhilnldeaa.Pure
open Go.RowKit Go.Proofs.Ythmmjbhilnldeaa.PFnExactDoesBreak Go.Proofs.YthmmjbhilnldeaaW.PrintWords Go.Proofs.YthmmjbhilnldeaaW.PrintLast
set_option linter.unusedVariables false

theorem within_some (a b c : Int) : impl_within.f a b c = some (decide (b ≤ a ∧ a ≤ c)) := by
  unfold impl_within.f
  by_cases h : a ≥ b
  · rw [if_pos h]; congr 1; rw [Bool.eq_iff_iff]; simp; omega
  · rw [if_neg h]; congr 1; symm; rw [decide_eq_false_iff_not]; omega

theorem same (a0 a1 a2 : Int) : spec_DoesBreak.f a0 a1 a2 = impl_DoesBreak.f a0 a1 a2 := by
  have e : spec_l1In.f = impl_within.f := rfl
  unfold spec_DoesBreak.f impl_DoesBreak.f spec_flFloors.f impl_isFloors.f impl_isBreak.f
  simp only [e, within_some, Option.bind_some]

theorem FnExactDoesBreak : laws_FnExactDoesBreak.Pure := by
  intro a0 a1 a2 _ _ _
  obtain ⟨r, hr⟩ : ∃ r, impl_DoesBreak.f a0 a1 a2 = some r := by
    unfold impl_DoesBreak.f impl_isFloors.f impl_isBreak.f
    simp only [within_some, Option.bind_some]
    repeat' split
    all_goals exact ⟨_, rfl⟩
  unfold laws_FnExactDoesBreak.f
  rw [same, hr]; simp

end Go.Proofs.Ythmmjbhilnldeaa.Pure
