/- The program's AreMarks answers as the reference's does, and leaves the row that it is given alone, for every floors and marks; no conditions. -/
import Derived.Test.YthmmjbhilnldeaaQFnExactAreMarksx2
namespace Go.Proofs.Ythmmjbhilnldeaa.Pure
open Go.RowKit Go.Proofs.Ythmmjbhilnldeaa.QFnExactAreMarks Go.Proofs.YthmmjbhilnldeaaW.PrintWords Go.Proofs.YthmmjbhilnldeaaW.PrintLast
set_option linter.unusedVariables false

theorem wrap64_small {x : Int} (h0 : -9223372036854775808 ≤ x) (h1 : x < 9223372036854775808) : wrap64 x = x := by
  unfold wrap64; omega
theorem l1In_some (a b c : Int) : spec_l1In.f a b c = some (decide (b ≤ a ∧ a ≤ c)) := by
  unfold spec_l1In.f
  by_cases h : a ≥ b
  · rw [if_pos h]; congr 1; rw [Bool.eq_iff_iff]; simp; omega
  · rw [if_neg h]; congr 1; symm; rw [decide_eq_false_iff_not]; omega
theorem l1In_yes {a b c : Int} (h : b ≤ a ∧ a ≤ c) : spec_l1In.f a b c = some true := by rw [l1In_some, decide_eq_true h]
theorem l1In_no {a b c : Int} (h : ¬ (b ≤ a ∧ a ≤ c)) : spec_l1In.f a b c = some false := by rw [l1In_some, decide_eq_false h]
theorem if_ff {α : Type} (x y : α) : (if false = true then x else y) = y := if_neg (by decide)

theorem within_some (a b c : Int) : impl_within.f a b c = some (decide (b ≤ a ∧ a ≤ c)) := by
  unfold impl_within.f
  by_cases h : a ≥ b
  · rw [if_pos h]; congr 1; rw [Bool.eq_iff_iff]; simp; omega
  · rw [if_neg h]; congr 1; symm; rw [decide_eq_false_iff_not]; omega
theorem within_yes {a b c : Int} (h : b ≤ a ∧ a ≤ c) : impl_within.f a b c = some true := by rw [within_some, decide_eq_true h]
theorem within_no {a b c : Int} (h : ¬ (b ≤ a ∧ a ≤ c)) : impl_within.f a b c = some false := by rw [within_some, decide_eq_false h]

theorem rising_l0 (a : Int) (l : List Int) (hl : l.length < 1000000000000) (d : Nat) : ∀ (i : Int), 0 ≤ i → i ≤ l.length → (l.length : Int) - i = d →
    ∃ r, Ev (fun k => impl_areRising.l0 k a l l (l.length : Int) i) r ∧ Ev (fun k => spec_l1Rising.l0 k l 1 a l (l.length : Int) i) r ∧ (r = true → ∀ j : Int, i ≤ j → j < l.length → 1 ≤ rd l j ∧ rd l j ≤ a ∧ (0 < j → rd l (j - 1) < rd l j)) := by
  induction d with
  | zero =>
    intro i h0 h1 hd
    refine ⟨true, Ev.step (f := fun _ => some true) (fun k => ?_) (Ev.now _), Ev.step (f := fun _ => some true) (fun k => ?_) (Ev.now _), fun _ j h2 h3 => by omega⟩
    · simp only [impl_areRising.l0]; rw [if_neg (by omega)]
    · simp only [spec_l1Rising.l0]; rw [if_neg (by omega)]
  | succ d ih =>
    intro i h0 h1 hd
    have hlt : i < (l.length : Int) := by omega
    have e1 : wrap64 (i + 1) = i + 1 := wrap64_small (by omega) (by omega)
    have e2 : wrap64 (i - 1) = i - 1 := wrap64_small (by omega) (by omega)
    obtain ⟨r, hr, hs, hp⟩ := ih (i + 1) (by omega) (by omega) (by omega)
    by_cases hw : 1 ≤ rd l i ∧ rd l i ≤ a
    · by_cases hi : i > 0
      · by_cases hc : rd l (i - 1) ≥ rd l i
        · refine ⟨false, Ev.step (f := fun _ => some false) (fun k => ?_) (Ev.now _), Ev.step (f := fun _ => some false) (fun k => ?_) (Ev.now _), fun h => by cases h⟩
          · simp only [impl_areRising.l0]; rw [if_pos hlt, if_pos h0, if_pos hlt, within_yes hw, Option.bind_some, if_pos rfl, if_pos hi, e2, if_pos (by omega), if_pos (by omega), if_pos hc]
          · simp only [spec_l1Rising.l0]; rw [if_pos hlt, if_pos h0, if_pos hlt, l1In_yes hw, Option.bind_some, if_pos rfl, if_pos hi, e2, if_pos (by omega), if_pos (by omega), if_pos hc]
        · refine ⟨r, Ev.step (f := fun k => impl_areRising.l0 k a l l (l.length : Int) (i + 1)) (fun k => ?_) hr, Ev.step (f := fun k => spec_l1Rising.l0 k l 1 a l (l.length : Int) (i + 1)) (fun k => ?_) hs, fun h j h2 h3 => ?_⟩
          · simp only [impl_areRising.l0]; rw [if_pos hlt, if_pos h0, if_pos hlt, within_yes hw, Option.bind_some, if_pos rfl, if_pos hi, e2, if_pos (by omega), if_pos (by omega), if_neg hc, e1]
          · simp only [spec_l1Rising.l0]; rw [if_pos hlt, if_pos h0, if_pos hlt, l1In_yes hw, Option.bind_some, if_pos rfl, if_pos hi, e2, if_pos (by omega), if_pos (by omega), if_neg hc, e1]
          · by_cases e : j = i
            · subst e; exact ⟨hw.1, hw.2, fun _ => by omega⟩
            · exact hp h j (by omega) h3
      · refine ⟨r, Ev.step (f := fun k => impl_areRising.l0 k a l l (l.length : Int) (i + 1)) (fun k => ?_) hr, Ev.step (f := fun k => spec_l1Rising.l0 k l 1 a l (l.length : Int) (i + 1)) (fun k => ?_) hs, fun h j h2 h3 => ?_⟩
        · simp only [impl_areRising.l0]; rw [if_pos hlt, if_pos h0, if_pos hlt, within_yes hw, Option.bind_some, if_pos rfl, if_neg hi, e1]
        · simp only [spec_l1Rising.l0]; rw [if_pos hlt, if_pos h0, if_pos hlt, l1In_yes hw, Option.bind_some, if_pos rfl, if_neg hi, e1]
        · by_cases e : j = i
          · subst e; exact ⟨hw.1, hw.2, fun h => absurd h hi⟩
          · exact hp h j (by omega) h3
    · refine ⟨false, Ev.step (f := fun _ => some false) (fun k => ?_) (Ev.now _), Ev.step (f := fun _ => some false) (fun k => ?_) (Ev.now _), fun h => by cases h⟩
      · simp only [impl_areRising.l0]; rw [if_pos hlt, if_pos h0, if_pos hlt, within_no hw, Option.bind_some, if_ff]
      · simp only [spec_l1Rising.l0]; rw [if_pos hlt, if_pos h0, if_pos hlt, l1In_no hw, Option.bind_some, if_ff]
/-- Marks as the program and as the reference see them. -/
theorem good_ev (a : Int) (l : List Int) (hl : l.length < 1000000000000) : ∃ r, Ev (fun k => impl_AreMarks.f k a l) r ∧ Ev (fun k => spec_stGood.f k a l) r ∧ (r = true → (0 ≤ a ∧ a ≤ 100) ∧ ∀ j : Int, 0 ≤ j → j < l.length → 1 ≤ rd l j ∧ rd l j ≤ a ∧ (0 < j → rd l (j - 1) < rd l j)) := by
  by_cases h : 0 ≤ a ∧ a ≤ 100
  · obtain ⟨r, h1, h2, h3⟩ := rising_l0 a l hl l.length 0 (by omega) (by omega) (by omega)
    refine ⟨r, ?_, ?_, fun hr => ⟨h, h3 hr⟩⟩
    · refine Ev.congr (f := fun k => (impl_areRising.f k a l).bind fun t => some t) (fun k => ?_) (Ev.bind (f := fun _ t => some t) h1 (Ev.now _))
      unfold impl_AreMarks.f impl_isMarked.f
      rw [within_yes h, Option.bind_some, Option.bind_some, if_pos rfl]
    · refine Ev.congr (f := fun k => (spec_l1Rising.f k l 1 a).bind fun t => some t) (fun k => ?_) (Ev.bind (f := fun _ t => some t) h2 (Ev.now _))
      unfold spec_stGood.f spec_stFloors.f
      rw [l1In_yes h, Option.bind_some, Option.bind_some, if_pos rfl]
  · refine ⟨false, Ev.congr (f := fun _ => some false) (fun k => ?_) (Ev.now _), Ev.congr (f := fun _ => some false) (fun k => ?_) (Ev.now _), fun h => by cases h⟩
    · unfold impl_AreMarks.f impl_isMarked.f
      rw [within_no h, Option.bind_some, Option.bind_some, if_ff]
    · unfold spec_stGood.f spec_stFloors.f
      rw [l1In_no h, Option.bind_some, Option.bind_some, if_ff]

theorem FnExactAreMarks : laws_FnExactAreMarks.Pure := by
  intro a0 l1 _ _ _ _
  apply Ev.rounds
  unfold laws_FnExactAreMarks.f
  by_cases h : (l1.length : Int) > 1000000
  · exact Ev.congr (fun k => if_pos h) (Ev.now _)
  · refine Ev.congr (fun k => if_neg h) ?_
    obtain ⟨r, hi, hs, _⟩ := good_ev a0 l1 (by omega)
    have ht := laws_toIntS.ev l1 (by omega)
    have hs' : Ev (fun k => spec_AreMarks.f k a0 l1) r := by unfold spec_AreMarks.f; exact Ev.bind (f := fun _ t => some t) hs (Ev.now _)
    have hx : Ev (fun k => laws_intactIntS.f k l1 l1) true := eqIntS_same l1 (by omega)
    refine Ev.bind (ht false) ?_
    refine Ev.bind hs' ?_
    refine Ev.bind (ht false) ?_
    refine Ev.bind hi ?_
    refine Ev.congr (fun k => if_neg (by simp)) ?_
    refine Ev.bind (ht false) ?_
    refine Ev.bind hx ?_
    refine Ev.congr (fun k => if_pos rfl) ?_
    refine Ev.bind (ht true) ?_
    refine Ev.bind hi ?_
    exact Ev.congr (fun k => if_neg (by simp)) (Ev.now _)

end Go.Proofs.Ythmmjbhilnldeaa.Pure
