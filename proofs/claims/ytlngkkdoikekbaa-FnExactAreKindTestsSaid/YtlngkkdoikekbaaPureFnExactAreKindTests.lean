/- The program's AreKindTests answers as the reference's does, and leaves the row that it is given alone, for every number and list; no conditions. -/
import Derived.Test.YtlngkkdoikekbaaQFnExactAreKindTestsx2
namespace Go.Proofs.Ytlngkkdoikekbaa.Pure
open Go.RowKit Go.Proofs.Ytlngkkdoikekbaa.QFnExactAreKindTests Go.Proofs.YtlngkkdoikekbaaW.PrintWords Go.Proofs.YtlngkkdoikekbaaW.PrintLast
set_option linter.unusedVariables false

theorem wrap64_small {x : Int} (h0 : -9223372036854775808 ≤ x) (h1 : x < 9223372036854775808) : wrap64 x = x := by
  unfold wrap64; omega
theorem l1In_some (a b c : Int) : spec_l1In.f a b c = some (decide (b ≤ a ∧ a ≤ c)) := by
  unfold spec_l1In.f
  by_cases h : a ≥ b
  · rw [if_pos h]; congr 1; rw [Bool.eq_iff_iff]; simp; omega
  · rw [if_neg h]; congr 1; symm; rw [decide_eq_false_iff_not]; omega
theorem l1In_yes {a b c : Int} (h : b ≤ a ∧ a ≤ c) : spec_l1In.f a b c = some true := by rw [l1In_some, decide_eq_true h]
theorem l1In_no {a b c : Int} (h : ¬ (b ≤ a ∧ a ≤ c)) : spec_l1In.f a b c = some false := by rw [l1In_some, decide_eq_false h]
theorem if_ff {α : Type} (x y : α) : (if false = true then x else y) = y := if_neg (by decide)

theorem inn_dec (a b c : Int) : Hand.inn a b c = decide (b ≤ a ∧ a ≤ c) := by unfold Hand.inn; rw [Bool.decide_and]
theorem inn_some (a b c : Int) : spec_l1In.f a b c = some (Hand.inn a b c) := by rw [l1In_some, inn_dec]
theorem rd_nat (l : List Int) (i : Nat) (h : i < l.length) : rd l (i : Int) = l[i] := by unfold rd; simp [h]

theorem rd73_nat (l : List S73) (i : Nat) (h : i < l.length) : rd_T73 l (i : Int) = l[i] := by unfold rd_T73; simp [h]
theorem kiTests_go (l : List S73) (b : Int) (hl : l.length < 1000000000000) (d : Nat) : ∀ (i : Nat), i + d = l.length → Ev (fun k => spec_kiTests.l0 k b l (l.length : Int) (i : Int)) (!((l.drop i).any fun x => !(Hand.inn x.f1 1 b))) := by
  induction d with
  | zero =>
    intro i hi
    refine Ev.step (f := fun _ => some true) (fun k => ?_) ?_
    · simp only [spec_kiTests.l0]; rw [if_neg (by omega)]
    · rw [List.drop_eq_nil_of_le (by omega)]; exact Ev.now _
  | succ d ih =>
    intro i hi
    have hlt : i < l.length := by omega
    have hw : wrap64 ((i : Int) + 1) = ((i + 1 : Nat) : Int) := wrap64_small (by omega) (by omega)
    rw [List.drop_eq_getElem_cons hlt, List.any_cons]
    cases hc : Hand.inn l[i].f1 1 b with
    | true =>
      refine Ev.step (f := fun k => spec_kiTests.l0 k b l (l.length : Int) ((i + 1 : Nat) : Int)) (fun k => ?_) (by rw [Bool.not_true, Bool.false_or]; exact ih (i + 1) (by omega))
      simp only [spec_kiTests.l0]
      rw [if_pos (by omega), if_pos (by omega), if_pos (by omega), rd73_nat l i hlt, inn_some, hc, Option.bind_some, if_pos rfl, hw]
    | false =>
      refine Ev.step (f := fun _ => some false) (fun k => ?_) (by rw [Bool.not_false, Bool.true_or]; exact Ev.now _)
      simp only [spec_kiTests.l0]
      rw [if_pos (by omega), if_pos (by omega), if_pos (by omega), rd73_nat l i hlt, inn_some, hc, Option.bind_some, if_ff]
def tup (x : S73) : Bool × Int × Bool := (x.f0, x.f1, x.f2)
theorem kiFloors_some (a : Int) : spec_kiFloors.f a = some (Hand.inn a 0 6) := by unfold spec_kiFloors.f; rw [inn_some, Option.bind_some]
theorem kiTests_ev (b : Int) (l : List S73) (hl : l.length < 1000000000000) : Ev (fun k => spec_kiTests.f k b l) (Hand.aKind b (l.map tup)) := by
  unfold Hand.aKind
  rw [List.length_map, List.any_map]
  cases hc : Hand.inn b 0 6 with
  | true =>
    by_cases h : l.length ≤ 40
    · rw [decide_eq_true h, Bool.and_true, Bool.true_and]
      refine Ev.congr (f := fun k => spec_kiTests.j0 k b l false) (fun k => ?_) (Ev.step (f := fun k => spec_kiTests.l0 k b l (l.length : Int) ((0 : Nat) : Int)) (fun k => ?_) (kiTests_go l b hl l.length 0 (by omega)))
      · unfold spec_kiTests.f
        rw [kiFloors_some, hc, Option.bind_some, if_pos rfl, show decide ((l.length : Int) > 40) = false from decide_eq_false (by omega)]
      · simp only [spec_kiTests.j0]; rw [if_ff]; rfl
    · rw [decide_eq_false h, Bool.and_false, Bool.false_and]
      refine Ev.congr (f := fun k => spec_kiTests.j0 k b l true) (fun k => ?_) (Ev.step (f := fun _ => some false) (fun k => ?_) (Ev.now _))
      · unfold spec_kiTests.f
        rw [kiFloors_some, hc, Option.bind_some, if_pos rfl, show decide ((l.length : Int) > 40) = true from decide_eq_true (by omega)]
      · simp only [spec_kiTests.j0]; exact if_pos trivial
  | false =>
    rw [Bool.false_and, Bool.false_and]
    refine Ev.congr (f := fun k => spec_kiTests.j0 k b l true) (fun k => ?_) (Ev.step (f := fun _ => some false) (fun k => ?_) (Ev.now _))
    · unfold spec_kiTests.f
      rw [kiFloors_some, hc, Option.bind_some, if_ff]
    · simp only [spec_kiTests.j0]; exact if_pos trivial
theorem areKinds_ev (b : Int) (l : List S73) (hl : l.length < 1000000000000) : Ev (fun k => impl_AreKindTests.f k b l) (Hand.aKind b (l.map tup)) := Ev.now _
theorem szKindTest_ev (l : List S75) (h : l.length ≤ 1000000) : laws_szKindTestS.f l 1000000 = some (1000000 - (l.length : Int)) := by
  unfold laws_szKindTestS.f
  have e : wrap64 (1000000 - (l.length : Int)) = 1000000 - (l.length : Int) := wrap64_small (by omega) (by omega)
  rw [e, if_neg (by omega)]
theorem szKindTest_big (l : List S75) (h : ¬ l.length ≤ 1000000) (hm : l.length ≤ 9223372036854775807) : laws_szKindTestS.f l 1000000 = some (-1) := by
  unfold laws_szKindTestS.f
  have e : wrap64 (1000000 - (l.length : Int)) = 1000000 - (l.length : Int) := wrap64_small (by omega) (by omega)
  rw [e, if_pos (by omega)]

theorem FnExactAreKindTests : laws_FnExactAreKindTests.Pure := by
  intro a0 l1 hm
  apply Ev.rounds
  unfold laws_FnExactAreKindTests.f
  by_cases h : l1.length ≤ 1000000
  · have hlen : (l1.map cvKindTest).length = l1.length := List.length_map ..
    have ht := laws_toKindTestS.ev l1 h
    have hs : Ev (fun k => spec_AreKindTests.f k a0 (l1.map cvKindTest)) (Hand.aKind a0 ((l1.map cvKindTest).map tup)) := by unfold spec_AreKindTests.f; exact Ev.bind (f := fun _ t => some t) (kiTests_ev a0 _ (by omega)) (Ev.now _)
    have hi := areKinds_ev a0 (l1.map cvKindTest) (by omega)
    have hx : Ev (fun k => laws_intactKindTestS.f k (l1.map cvKindTest) (l1.map cvKindTest)) true := laws_eqKindTestS_same _ (by omega)
    refine Ev.congr (f := _) (fun k => by rw [szKindTest_ev l1 h, Option.bind_some, if_neg (by omega)]) ?_
    refine Ev.bind (ht false) ?_
    refine Ev.bind hs ?_
    refine Ev.bind (ht false) ?_
    refine Ev.bind hi ?_
    refine Ev.congr (fun k => if_neg (by simp)) ?_
    refine Ev.bind (ht false) ?_
    refine Ev.bind hx ?_
    refine Ev.congr (fun k => if_pos rfl) ?_
    refine Ev.bind (ht true) ?_
    refine Ev.bind hi ?_
    exact Ev.congr (fun k => if_neg (by simp)) (Ev.now _)
  · exact Ev.congr (f := fun _ => some true) (fun k => by rw [szKindTest_big l1 h hm, Option.bind_some, if_pos (by omega)]) (Ev.now _)

end Go.Proofs.Ytlngkkdoikekbaa.Pure
