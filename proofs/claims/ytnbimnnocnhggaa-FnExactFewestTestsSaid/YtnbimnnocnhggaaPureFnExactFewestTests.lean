/- The program's FewestTests answers as the reference's does, for every eggs and floors; no conditions. -/
import Derived.Test.YtnbimnnocnhggaaQFnExactFewestTestsx1
namespace Go.Proofs.Ytnbimnnocnhggaa.Pure
open Go.RowKit Go.Proofs.Ytnbimnnocnhggaa.QFnExactFewestTests Go.Proofs.YtnbimnnocnhggaaW.PrintWords Go.Proofs.YtnbimnnocnhggaaW.PrintLast
set_option linter.unusedVariables false

theorem wrap64_small {x : Int} (h0 : -9223372036854775808 ≤ x) (h1 : x < 9223372036854775808) : wrap64 x = x := by
  unfold wrap64; omega

theorem rd_set (l : List Int) (i : Nat) (v : Int) (j : Int) (hj : 0 ≤ j) (hi : i < l.length) : rd (l.set i v) j = if j = (i : Int) then v else rd l j := by
  unfold rd
  by_cases h : j = (i : Int)
  · subst h
    simp [hi]
  · rw [if_neg h]
    have : i ≠ j.toNat := by omega
    simp [List.getD_eq_getElem?_getD, this]

theorem l1In_some (a b c : Int) : spec_l1In.f a b c = some (decide (b ≤ a ∧ a ≤ c)) := by
  unfold spec_l1In.f
  by_cases h : a ≥ b
  · rw [if_pos h]; congr 1; rw [Bool.eq_iff_iff]; simp; omega
  · rw [if_neg h]; congr 1; symm; rw [decide_eq_false_iff_not]; omega

theorem l1Least_some (a b : Int) : spec_l1Least.f a b = some (min a b) := by
  unfold spec_l1Least.f
  split <;> (congr 1; omega)

/-- The row for t tests. -/
structure Row (e t : Nat) (x : List Int) : Prop where
  len : x.length = e + 1
  at_ : ∀ j : Int, 0 ≤ j → j ≤ e → rd x j = Hand.reach t j.toNat
/-- Cells above m hold the next row already. -/
structure Mixed (e t m : Nat) (x : List Int) : Prop where
  len : x.length = e + 1
  at_ : ∀ j : Int, 0 ≤ j → j ≤ e → rd x j = if j ≤ m then Hand.reach t j.toNat else Hand.reach (t + 1) j.toNat

theorem row_zero (e : Nat) : Row e 0 (List.replicate (e + 1) 0) := by
  refine ⟨by simp, fun j h0 h1 => ?_⟩
  rw [Hand.reach_zero]
  unfold rd
  simp only [List.getD_eq_getElem?_getD, List.getElem?_replicate]
  split <;> rfl

theorem mixed_start {e t : Nat} {x : List Int} (h : Row e t x) : Mixed e t e x := ⟨h.len, fun j h0 h1 => by rw [if_pos h1]; exact h.at_ j h0 h1⟩
theorem mixed_end {e t : Nat} {x : List Int} (h : Mixed e t 0 x) : Row e (t + 1) x := ⟨h.len, fun j h0 h1 => by
  rw [h.at_ j h0 h1]
  by_cases h2 : j ≤ ((0 : Nat) : Int)
  · obtain rfl : j = 0 := by omega
    rw [if_pos h2]
    show Hand.reach t 0 = Hand.reach (t + 1) 0
    rw [Hand.reach_none, Hand.reach_none]
  · rw [if_neg h2]⟩
theorem mixed_step {e t m : Nat} {x : List Int} (h : Mixed e t (m + 1) x) (hm : m + 1 ≤ e) :
    Mixed e t m (x.set (m + 1) (min (rd x (m : Int) + rd x ((m : Int) + 1) + 1) 1000000001)) := by
  refine ⟨by rw [List.length_set]; exact h.len, fun j h0 h1 => ?_⟩
  rw [rd_set _ _ _ _ h0 (by rw [h.len]; omega)]
  by_cases hj : j = ((m + 1 : Nat) : Int)
  · subst hj
    rw [if_pos rfl, if_neg (by omega), h.at_ (m : Int) (by omega) (by omega), h.at_ ((m : Int) + 1) (by omega) (by omega), if_pos (by omega), if_pos (by omega)]
    rw [show ((m + 1 : Nat) : Int).toNat = m + 1 by omega, show ((m : Int)).toNat = m by omega, show ((m : Int) + 1).toNat = m + 1 by omega]
    rw [Hand.reach]
    omega
  · rw [if_neg hj, h.at_ j h0 h1]
    by_cases h2 : j ≤ ((m + 1 : Nat) : Int)
    · rw [if_pos h2, if_pos (by omega)]
    · rw [if_neg h2, if_neg (by omega)]
theorem mixed_bd {e t m : Nat} {x : List Int} (h : Mixed e t m x) (j : Int) (h0 : 0 ≤ j) (h1 : j ≤ e) : 0 ≤ rd x j ∧ rd x j ≤ 1000000001 := by
  rw [h.at_ j h0 h1]
  split <;> exact Hand.reach_bd _ _

theorem l1In_yes {a b c : Int} (h : b ≤ a ∧ a ≤ c) : spec_l1In.f a b c = some true := by rw [l1In_some, decide_eq_true h]
theorem l1In_no {a b c : Int} (h : ¬ (b ≤ a ∧ a ≤ c)) : spec_l1In.f a b c = some false := by rw [l1In_some, decide_eq_false h]
theorem if_ff {α : Type} (x y : α) : (if false = true then x else y) = y := if_neg (by decide)

theorem flEggs_yes {a : Int} (h : 1 ≤ a ∧ a ≤ 10) : spec_flEggs.f a = some true := by unfold spec_flEggs.f; rw [l1In_yes h, Option.bind_some]
theorem flEggs_no {a : Int} (h : ¬ (1 ≤ a ∧ a ≤ 10)) : spec_flEggs.f a = some false := by unfold spec_flEggs.f; rw [l1In_no h, Option.bind_some]

theorem flFloors_yes {a : Int} (h : 0 ≤ a ∧ a ≤ 1000) : spec_flFloors.f a = some true := by unfold spec_flFloors.f; rw [l1In_yes h, Option.bind_some]
theorem flFloors_no {a : Int} (h : ¬ (0 ≤ a ∧ a ≤ 1000)) : spec_flFloors.f a = some false := by unfold spec_flFloors.f; rw [l1In_no h, Option.bind_some]

theorem flBoth_yes {a b : Int} (h : Hand.House a b) : spec_flBoth.f a b = some true := by
  unfold spec_flBoth.f; rw [flEggs_yes h.1, Option.bind_some, if_pos rfl, flFloors_yes h.2, Option.bind_some]
theorem flBoth_no {a b : Int} (h : ¬ Hand.House a b) : spec_flBoth.f a b = some false := by
  unfold spec_flBoth.f
  by_cases h1 : 1 ≤ a ∧ a ≤ 10
  · rw [flEggs_yes h1, Option.bind_some, if_pos rfl, flFloors_no (fun h2 => h ⟨h1, h2⟩), Option.bind_some]
  · rw [flEggs_no h1, Option.bind_some, if_ff]

theorem inner_few (e : Nat) (he : e ≤ 10) (a1 x6 : Int) (h6 : 0 ≤ x6) (h6' : x6 < 1000000000) (t m : Nat) : ∀ (x : List Int), Mixed e t m x → m ≤ e →
    ∃ x', Row e (t + 1) x' ∧ ∀ r, Ev (fun k => spec_flFew.l0 k e a1 x' (x6 + 1)) r → Ev (fun k => spec_flFew.l1 k e a1 x x6 m) r := by
  induction m with
  | zero =>
    intro x hx _
    exact ⟨x, mixed_end hx, fun r hr => Ev.step (f := fun k => spec_flFew.l0 k e a1 x (x6 + 1)) (fun k => by simp only [spec_flFew.l1]; rw [if_neg (by omega), wrap64_small (by omega) (by omega)]) hr⟩
  | succ m ih =>
    intro x hx hm
    obtain ⟨x', h1, h2⟩ := ih _ (mixed_step hx hm) (by omega)
    refine ⟨x', h1, fun r hr => Ev.step (f := fun k => spec_flFew.l1 k e a1 (x.set (m + 1) (min (rd x (m : Int) + rd x ((m : Int) + 1) + 1) 1000000001)) x6 m) (fun k => ?_) (h2 r hr)⟩
    have b1 := mixed_bd hx (m : Int) (by omega) (by omega)
    have b2 := mixed_bd hx ((m : Int) + 1) (by omega) (by omega)
    have hl := hx.len
    have e1 : wrap64 (((m + 1 : Nat) : Int) - 1) = m := by rw [wrap64_small (by omega) (by omega)]; omega
    have e2 : ((m + 1 : Nat) : Int) = (m : Int) + 1 := by omega
    simp only [spec_flFew.l1]
    rw [if_pos (by omega), e1, if_pos (by omega), if_pos (by omega), if_pos (by omega), if_pos (by omega), e2, wrap64_small (x := rd x (m : Int) + rd x ((m : Int) + 1)) (by omega) (by omega), wrap64_small (by omega) (by omega), l1Least_some, Option.bind_some,
      show ((m : Int) + 1).toNat = m + 1 by omega]

theorem few_l0 (e : Nat) (he : e ≤ 10) (n : Int) (T : Nat) (hT : T ≤ 1000) (hF : Hand.IsFew e n T) (d : Nat) : ∀ (t : Nat) (x : List Int), Row e t x → t + d = T → Ev (fun k => spec_flFew.l0 k e n x t) T := by
  induction d with
  | zero =>
    intro t x hx ht
    obtain rfl : t = T := by omega
    have hl := hx.len
    have := hF.1
    refine Ev.step (f := fun _ => some (t : Int)) (fun k => ?_) (Ev.now _)
    simp only [spec_flFew.l0]
    rw [if_pos (by omega), if_pos (by omega), hx.at_ e (by omega) (by omega), Int.toNat_natCast, if_neg (by omega)]
  | succ d ih =>
    intro t x hx ht
    have hl := hx.len
    have := hF.2 t (by omega)
    obtain ⟨x', h1, h2⟩ := inner_few e he n t (by omega) (by omega) t e x (mixed_start hx) (Nat.le_refl _)
    refine Ev.step (f := fun k => spec_flFew.l1 k e n x t e) (fun k => ?_) (h2 _ ?_)
    · simp only [spec_flFew.l0]; rw [if_pos (by omega), if_pos (by omega), hx.at_ e (by omega) (by omega), Int.toNat_natCast, if_pos this]
    · have := ih (t + 1) x' h1 (by omega)
      rw [show ((t + 1 : Nat) : Int) = (t : Int) + 1 by omega] at this
      exact this
theorem flFew_ev (e : Nat) (he1 : 1 ≤ e) (he : e ≤ 10) (n : Int) (hn : n ≤ 1000) : Ev (fun k => spec_flFew.f k e n) (Hand.fewT e n) := by
  have hs := Hand.fewT_spec e he1 n hn
  refine Ev.congr (f := fun k => spec_flFew.l0 k e n (List.replicate (e + 1) 0) (0 : Nat)) (fun k => ?_) (few_l0 e he n _ hs.1 hs.2 (Hand.fewT e n) 0 _ (row_zero e) (by omega))
  unfold spec_flFew.f
  have e1 : wrap64 ((e : Int) + 1) = (e : Int) + 1 := wrap64_small (by omega) (by omega)
  rw [e1, if_pos (by omega), if_pos (by omega), show ((e : Int) + 1).toNat = e + 1 by omega]; rfl

theorem law_of (a0 a1 : Int) (p : Int × Bool) (hs : Ev (fun k => spec_FewestTests.f k a0 a1) p) (hi : ∀ k, impl_FewestTests.f k a0 a1 = some p) : ∃ k, laws_FnExactFewestTests.f k a0 a1 = some true := by
  apply Ev.rounds
  unfold laws_FnExactFewestTests.f
  refine Ev.bind hs ?_
  simp only [hi, Option.bind_some, if_true, bne_self_eq_false, Bool.false_eq_true, if_false]
  exact Ev.now _

theorem FnExactFewestTests : laws_FnExactFewestTests.Pure := by
  intro a0 a1 _ _
  refine law_of a0 a1 _ ?_ (fun k => rfl)
  unfold Hand.fewRes
  by_cases h : Hand.House a0 a1
  · obtain ⟨e, rfl⟩ := Int.eq_ofNat_of_zero_le (show 0 ≤ a0 by have := h.1; omega)
    rw [if_pos h, Int.toNat_natCast]
    refine Ev.congr (f := fun k => (spec_flFew.f k e a1).bind fun t113 => (some (t113, true))) (fun k => ?_) (Ev.bind (flFew_ev e (by have := h.1; omega) (by have := h.1; omega) a1 h.2.2) (Ev.now _))
    unfold spec_FewestTests.f
    rw [flBoth_yes h, Option.bind_some, if_pos rfl]
  · rw [if_neg h]
    refine Ev.congr (f := fun k => some (0, false)) (fun k => ?_) (Ev.now _)
    unfold spec_FewestTests.f
    rw [flBoth_no h, Option.bind_some, if_ff]

end Go.Proofs.Ytnbimnnocnhggaa.Pure
