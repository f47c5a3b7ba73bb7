/- The program's AreWeights answers as the reference's does, and leaves the row that it is given alone, for every list; no conditions. -/
import Derived.Test.YtlngkkdoikekbaaQFnExactAreWeightsx2
namespace Go.Proofs.Ytlngkkdoikekbaa.Pure
open Go.RowKit Go.Proofs.Ytlngkkdoikekbaa.QFnExactAreWeights Go.Proofs.YtlngkkdoikekbaaW.PrintWords Go.Proofs.YtlngkkdoikekbaaW.PrintLast
set_option linter.unusedVariables false

theorem wrap64_small {x : Int} (h0 : -9223372036854775808 ≤ x) (h1 : x < 9223372036854775808) : wrap64 x = x := by
  unfold wrap64; omega
theorem l1In_some (a b c : Int) : spec_l1In.f a b c = some (decide (b ≤ a ∧ a ≤ c)) := by
  unfold spec_l1In.f
  by_cases h : a ≥ b
  · rw [if_pos h]; congr 1; rw [Bool.eq_iff_iff]; simp; omega
  · rw [if_neg h]; congr 1; symm; rw [decide_eq_false_iff_not]; omega
theorem l1In_yes {a b c : Int} (h : b ≤ a ∧ a ≤ c) : spec_l1In.f a b c = some true := by rw [l1In_some, decide_eq_true h]
theorem l1In_no {a b c : Int} (h : ¬ (b ≤ a ∧ a ≤ c)) : spec_l1In.f a b c = some false := by rw [l1In_some, decide_eq_false h]
theorem if_ff {α : Type} (x y : α) : (if false = true then x else y) = y := if_neg (by decide)

theorem inn_dec (a b c : Int) : Hand.inn a b c = decide (b ≤ a ∧ a ≤ c) := by unfold Hand.inn; rw [Bool.decide_and]
theorem inn_some (a b c : Int) : spec_l1In.f a b c = some (Hand.inn a b c) := by rw [l1In_some, inn_dec]
theorem rd_nat (l : List Int) (i : Nat) (h : i < l.length) : rd l (i : Int) = l[i] := by unfold rd; simp [h]

theorem l1All_go (l : List Int) (a b : Int) (hl : l.length < 1000000000000) (d : Nat) : ∀ (i : Nat), i + d = l.length → Ev (fun k => spec_l1All.l0 k a b l (l.length : Int) (i : Int)) (!((l.drop i).any fun x => !(Hand.inn x a b))) := by
  induction d with
  | zero =>
    intro i hi
    refine Ev.step (f := fun _ => some true) (fun k => ?_) ?_
    · simp only [spec_l1All.l0]; rw [if_neg (by omega)]
    · rw [List.drop_eq_nil_of_le (by omega)]; exact Ev.now _
  | succ d ih =>
    intro i hi
    have hlt : i < l.length := by omega
    have hw : wrap64 ((i : Int) + 1) = ((i + 1 : Nat) : Int) := wrap64_small (by omega) (by omega)
    rw [List.drop_eq_getElem_cons hlt, List.any_cons]
    cases hc : Hand.inn l[i] a b with
    | true =>
      refine Ev.step (f := fun k => spec_l1All.l0 k a b l (l.length : Int) ((i + 1 : Nat) : Int)) (fun k => ?_) (by rw [Bool.not_true, Bool.false_or]; exact ih (i + 1) (by omega))
      simp only [spec_l1All.l0]
      rw [if_pos (by omega), if_pos (by omega), if_pos (by omega), rd_nat l i hlt, inn_some, hc, Option.bind_some, if_pos rfl, hw]
    | false =>
      refine Ev.step (f := fun _ => some false) (fun k => ?_) (by rw [Bool.not_false, Bool.true_or]; exact Ev.now _)
      simp only [spec_l1All.l0]
      rw [if_pos (by omega), if_pos (by omega), if_pos (by omega), rd_nat l i hlt, inn_some, hc, Option.bind_some, if_ff]

theorem meGood_ev (l : List Int) (hl : l.length < 1000000000000) : Ev (fun k => spec_meGood.f k l) (Hand.aw l) := by
  unfold Hand.aw
  cases hc : Hand.inn (l.length : Int) 1 31 with
  | true =>
    rw [Bool.true_and]
    refine Ev.congr (f := fun k => (spec_l1All.f k l 0 1000).bind fun t => (some t)) (fun k => ?_) (Ev.bind (f := fun _ t => some t) (Ev.congr (f := fun k => spec_l1All.l0 k 0 1000 l (l.length : Int) ((0 : Nat) : Int)) (fun k => rfl) (l1All_go l 0 1000 hl l.length 0 (by omega))) (Ev.now _))
    unfold spec_meGood.f
    rw [inn_some, hc, Option.bind_some, if_pos rfl]
  | false =>
    rw [Bool.false_and]
    refine Ev.congr (f := fun _ => some false) (fun k => ?_) (Ev.now _)
    unfold spec_meGood.f
    rw [inn_some, hc, Option.bind_some, if_ff]
theorem FnExactAreWeights : laws_FnExactAreWeights.Pure := by
  intro l0 _ _ _
  apply Ev.rounds
  unfold laws_FnExactAreWeights.f
  by_cases h : (l0.length : Int) > 1000000
  · exact Ev.congr (fun k => if_pos h) (Ev.now _)
  · refine Ev.congr (fun k => if_neg h) ?_
    have ht := laws_toIntS.ev l0 (by omega)
    have hs := meGood_ev l0 (by omega)
    have hs' : Ev (fun k => spec_AreWeights.f k l0) (Hand.aw l0) := by unfold spec_AreWeights.f; exact Ev.bind (f := fun _ t => some t) hs (Ev.now _)
    have hi : Ev (fun k => impl_AreWeights.f k l0) (Hand.aw l0) := Ev.now _
    have hx : Ev (fun k => laws_intactIntS.f k l0 l0) true := eqIntS_same l0 (by omega)
    refine Ev.bind (ht false) ?_
    refine Ev.bind hs' ?_
    refine Ev.bind (ht false) ?_
    refine Ev.bind hi ?_
    refine Ev.congr (fun k => if_neg (by simp)) ?_
    refine Ev.bind (ht false) ?_
    refine Ev.bind hx ?_
    refine Ev.congr (fun k => if_pos rfl) ?_
    refine Ev.bind (ht true) ?_
    refine Ev.bind hi ?_
    exact Ev.congr (fun k => if_neg (by simp)) (Ev.now _)

end Go.Proofs.Ytlngkkdoikekbaa.Pure
