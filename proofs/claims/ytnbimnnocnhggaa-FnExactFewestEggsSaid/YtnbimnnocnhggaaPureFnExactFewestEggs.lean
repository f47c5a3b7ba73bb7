/- The program's FewestEggs answers as the reference's does, for every floors and tests; no conditions. -/
import Derived.Test.YtnbimnnocnhggaaQFnExactFewestEggsx1
namespace Go.Proofs.Ytnbimnnocnhggaa.Pure
open Go.RowKit Go.Proofs.Ytnbimnnocnhggaa.QFnExactFewestEggs Go.Proofs.YtnbimnnocnhggaaW.PrintWords Go.Proofs.YtnbimnnocnhggaaW.PrintLast
set_option linter.unusedVariables false

theorem wrap64_small {x : Int} (h0 : -9223372036854775808 ≤ x) (h1 : x < 9223372036854775808) : wrap64 x = x := by
  unfold wrap64; omega

theorem rd_set (l : List Int) (i : Nat) (v : Int) (j : Int) (hj : 0 ≤ j) (hi : i < l.length) : rd (l.set i v) j = if j = (i : Int) then v else rd l j := by
  unfold rd
  by_cases h : j = (i : Int)
  · subst h
    simp [hi]
  · rw [if_neg h]
    have : i ≠ j.toNat := by omega
    simp [List.getD_eq_getElem?_getD, this]

theorem l1In_some (a b c : Int) : spec_l1In.f a b c = some (decide (b ≤ a ∧ a ≤ c)) := by
  unfold spec_l1In.f
  by_cases h : a ≥ b
  · rw [if_pos h]; congr 1; rw [Bool.eq_iff_iff]; simp; omega
  · rw [if_neg h]; congr 1; symm; rw [decide_eq_false_iff_not]; omega

theorem l1Least_some (a b : Int) : spec_l1Least.f a b = some (min a b) := by
  unfold spec_l1Least.f
  split <;> (congr 1; omega)

/-- The row for t tests. -/
structure Row (e t : Nat) (x : List Int) : Prop where
  len : x.length = e + 1
  at_ : ∀ j : Int, 0 ≤ j → j ≤ e → rd x j = Hand.reach t j.toNat
/-- Cells above m hold the next row already. -/
structure Mixed (e t m : Nat) (x : List Int) : Prop where
  len : x.length = e + 1
  at_ : ∀ j : Int, 0 ≤ j → j ≤ e → rd x j = if j ≤ m then Hand.reach t j.toNat else Hand.reach (t + 1) j.toNat

theorem row_zero (e : Nat) : Row e 0 (List.replicate (e + 1) 0) := by
  refine ⟨by simp, fun j h0 h1 => ?_⟩
  rw [Hand.reach_zero]
  unfold rd
  simp only [List.getD_eq_getElem?_getD, List.getElem?_replicate]
  split <;> rfl

theorem mixed_start {e t : Nat} {x : List Int} (h : Row e t x) : Mixed e t e x := ⟨h.len, fun j h0 h1 => by rw [if_pos h1]; exact h.at_ j h0 h1⟩
theorem mixed_end {e t : Nat} {x : List Int} (h : Mixed e t 0 x) : Row e (t + 1) x := ⟨h.len, fun j h0 h1 => by
  rw [h.at_ j h0 h1]
  by_cases h2 : j ≤ ((0 : Nat) : Int)
  · obtain rfl : j = 0 := by omega
    rw [if_pos h2]
    show Hand.reach t 0 = Hand.reach (t + 1) 0
    rw [Hand.reach_none, Hand.reach_none]
  · rw [if_neg h2]⟩
theorem mixed_step {e t m : Nat} {x : List Int} (h : Mixed e t (m + 1) x) (hm : m + 1 ≤ e) :
    Mixed e t m (x.set (m + 1) (min (rd x (m : Int) + rd x ((m : Int) + 1) + 1) 1000000001)) := by
  refine ⟨by rw [List.length_set]; exact h.len, fun j h0 h1 => ?_⟩
  rw [rd_set _ _ _ _ h0 (by rw [h.len]; omega)]
  by_cases hj : j = ((m + 1 : Nat) : Int)
  · subst hj
    rw [if_pos rfl, if_neg (by omega), h.at_ (m : Int) (by omega) (by omega), h.at_ ((m : Int) + 1) (by omega) (by omega), if_pos (by omega), if_pos (by omega)]
    rw [show ((m + 1 : Nat) : Int).toNat = m + 1 by omega, show ((m : Int)).toNat = m by omega, show ((m : Int) + 1).toNat = m + 1 by omega]
    rw [Hand.reach]
    omega
  · rw [if_neg hj, h.at_ j h0 h1]
    by_cases h2 : j ≤ ((m + 1 : Nat) : Int)
    · rw [if_pos h2, if_pos (by omega)]
    · rw [if_neg h2, if_neg (by omega)]
theorem mixed_bd {e t m : Nat} {x : List Int} (h : Mixed e t m x) (j : Int) (h0 : 0 ≤ j) (h1 : j ≤ e) : 0 ≤ rd x j ∧ rd x j ≤ 1000000001 := by
  rw [h.at_ j h0 h1]
  split <;> exact Hand.reach_bd _ _

theorem l1In_yes {a b c : Int} (h : b ≤ a ∧ a ≤ c) : spec_l1In.f a b c = some true := by rw [l1In_some, decide_eq_true h]
theorem l1In_no {a b c : Int} (h : ¬ (b ≤ a ∧ a ≤ c)) : spec_l1In.f a b c = some false := by rw [l1In_some, decide_eq_false h]
theorem if_ff {α : Type} (x y : α) : (if false = true then x else y) = y := if_neg (by decide)

theorem flFloors_yes {a : Int} (h : 0 ≤ a ∧ a ≤ 1000) : spec_flFloors.f a = some true := by unfold spec_flFloors.f; rw [l1In_yes h, Option.bind_some]
theorem flFloors_no {a : Int} (h : ¬ (0 ≤ a ∧ a ≤ 1000)) : spec_flFloors.f a = some false := by unfold spec_flFloors.f; rw [l1In_no h, Option.bind_some]

theorem inner_reach (e : Nat) (he : e ≤ 10) (a1 x6 : Int) (h6 : 0 ≤ x6) (h6' : x6 < 1000000000) (t m : Nat) : ∀ (x : List Int), Mixed e t m x → m ≤ e →
    ∃ x', Row e (t + 1) x' ∧ ∀ r, Ev (fun k => spec_flReach.l0 k e a1 x' (x6 + 1)) r → Ev (fun k => spec_flReach.l1 k e a1 x x6 m) r := by
  induction m with
  | zero =>
    intro x hx _
    exact ⟨x, mixed_end hx, fun r hr => Ev.step (f := fun k => spec_flReach.l0 k e a1 x (x6 + 1)) (fun k => by simp only [spec_flReach.l1]; rw [if_neg (by omega), wrap64_small (by omega) (by omega)]) hr⟩
  | succ m ih =>
    intro x hx hm
    obtain ⟨x', h1, h2⟩ := ih _ (mixed_step hx hm) (by omega)
    refine ⟨x', h1, fun r hr => Ev.step (f := fun k => spec_flReach.l1 k e a1 (x.set (m + 1) (min (rd x (m : Int) + rd x ((m : Int) + 1) + 1) 1000000001)) x6 m) (fun k => ?_) (h2 r hr)⟩
    have b1 := mixed_bd hx (m : Int) (by omega) (by omega)
    have b2 := mixed_bd hx ((m : Int) + 1) (by omega) (by omega)
    have hl := hx.len
    have e1 : wrap64 (((m + 1 : Nat) : Int) - 1) = m := by rw [wrap64_small (by omega) (by omega)]; omega
    have e2 : ((m + 1 : Nat) : Int) = (m : Int) + 1 := by omega
    simp only [spec_flReach.l1]
    rw [if_pos (by omega), e1, if_pos (by omega), if_pos (by omega), if_pos (by omega), if_pos (by omega), e2, wrap64_small (x := rd x (m : Int) + rd x ((m : Int) + 1)) (by omega) (by omega), wrap64_small (by omega) (by omega), l1Least_some, Option.bind_some,
      show ((m : Int) + 1).toNat = m + 1 by omega]

theorem reach_l0 (e : Nat) (he : e ≤ 10) (T : Nat) (hT : T ≤ 1000) (d : Nat) : ∀ (t : Nat) (x : List Int), Row e t x → t + d = T → Ev (fun k => spec_flReach.l0 k e T x t) (Hand.reach T e) := by
  induction d with
  | zero =>
    intro t x hx ht
    obtain rfl : t = T := by omega
    have hl := hx.len
    refine Ev.step (f := fun _ => some (Hand.reach t e)) (fun k => ?_) (Ev.now _)
    simp only [spec_flReach.l0]
    rw [if_neg (by omega), if_pos (by omega), if_pos (by omega), hx.at_ e (by omega) (by omega), Int.toNat_natCast]
  | succ d ih =>
    intro t x hx ht
    obtain ⟨x', h1, h2⟩ := inner_reach e he T t (by omega) (by omega) t e x (mixed_start hx) (Nat.le_refl _)
    refine Ev.step (f := fun k => spec_flReach.l1 k e T x t e) (fun k => ?_) (h2 _ ?_)
    · simp only [spec_flReach.l0]; rw [if_pos (by omega)]
    · have := ih (t + 1) x' h1 (by omega)
      rw [show ((t + 1 : Nat) : Int) = (t : Int) + 1 by omega] at this
      exact this
theorem flReach_ev (e : Nat) (he : e ≤ 10) (t : Nat) (ht : t ≤ 1000) : Ev (fun k => spec_flReach.f k e t) (Hand.reach t e) := by
  refine Ev.congr (f := fun k => spec_flReach.l0 k e t (List.replicate (e + 1) 0) (0 : Nat)) (fun k => ?_) (reach_l0 e he t ht t 0 _ (row_zero e) (by omega))
  unfold spec_flReach.f
  have e1 : wrap64 ((e : Int) + 1) = (e : Int) + 1 := wrap64_small (by omega) (by omega)
  rw [e1, if_pos (by omega), if_pos (by omega), show ((e : Int) + 1).toNat = e + 1 by omega]; rfl
theorem flReach_neg (e : Nat) (he : e ≤ 10) (t : Int) (ht : t < 0) : Ev (fun k => spec_flReach.f k e t) 0 := by
  refine Ev.congr (f := fun k => spec_flReach.l0 k e t (List.replicate (e + 1) 0) 0) (fun k => ?_) ?_
  · unfold spec_flReach.f
    have e1 : wrap64 ((e : Int) + 1) = (e : Int) + 1 := wrap64_small (by omega) (by omega)
    rw [e1, if_pos (by omega), if_pos (by omega), show ((e : Int) + 1).toNat = e + 1 by omega]
  · refine Ev.step (f := fun _ => some 0) (fun k => ?_) (Ev.now _)
    have hx := row_zero e
    have hl := hx.len
    simp only [spec_flReach.l0]
    rw [if_neg (by omega), if_pos (by omega), if_pos (by omega), hx.at_ e (by omega) (by omega), Hand.reach_zero]

theorem law_of (a0 a1 : Int) (p : Int × Bool) (hs : Ev (fun k => spec_FewestEggs.f k a0 a1) p) (hi : ∀ k, impl_FewestEggs.f k a0 a1 = some p) : ∃ k, laws_FnExactFewestEggs.f k a0 a1 = some true := by
  apply Ev.rounds
  unfold laws_FnExactFewestEggs.f
  refine Ev.bind hs ?_
  simp only [hi, Option.bind_some, if_true, bne_self_eq_false, Bool.false_eq_true, if_false]
  exact Ev.now _

theorem eggs_l0 (n : Int) (t : Nat) (ht : t ≤ 1000) (d : Nat) : ∀ m : Nat, m + d = 11 → Ev (fun k => spec_FewestEggs.l0 k n t m) (Hand.eggsFrom n t d m) := by
  induction d with
  | zero =>
    intro m hm
    refine Ev.step (f := fun _ => some (0, false)) (fun k => ?_) (Ev.now _)
    simp only [spec_FewestEggs.l0]; rw [if_neg (by omega)]
  | succ d ih =>
    intro m hm
    refine Ev.step (f := fun k => (spec_flReach.f k m t).bind fun t112 => (if t112 ≥ n then (some ((m : Int), true)) else (spec_FewestEggs.l0 k n t (wrap64 ((m : Int) + 1))))) (fun k => ?_) (Ev.bind (flReach_ev m (by omega) t ht) ?_)
    · simp only [spec_FewestEggs.l0]; rw [if_pos (by omega)]
    · rw [Hand.eggsFrom]
      by_cases h : n ≤ Hand.reach t m
      · rw [if_pos h]
        exact Ev.congr (fun k => if_pos h) (Ev.now _)
      · rw [if_neg h]
        refine Ev.congr (fun k => if_neg h) ?_
        rw [wrap64_small (by omega) (by omega)]
        have := ih (m + 1) (by omega)
        rw [show ((m + 1 : Nat) : Int) = (m : Int) + 1 by omega] at this
        exact this

theorem FnExactFewestEggs : laws_FnExactFewestEggs.Pure := by
  intro a0 a1 _ _
  refine law_of a0 a1 _ ?_ (fun k => rfl)
  unfold Hand.eggsRes
  by_cases h1 : 0 ≤ a0 ∧ a0 ≤ 1000
  · by_cases h2 : 0 ≤ a1 ∧ a1 ≤ 1000
    · obtain ⟨t, rfl⟩ := Int.eq_ofNat_of_zero_le (show 0 ≤ a1 by omega)
      rw [if_pos ⟨h1, h2⟩, Int.toNat_natCast]
      refine Ev.congr (f := fun k => spec_FewestEggs.j0 k a0 t false) (fun k => ?_) (Ev.step (f := fun k => spec_FewestEggs.l0 k a0 t (1 : Nat)) (fun k => ?_) (eggs_l0 a0 t (by omega) 10 1 rfl))
      · unfold spec_FewestEggs.f
        rw [flFloors_yes h1, Option.bind_some, if_pos rfl, l1In_yes h2, Option.bind_some]; rfl
      · simp only [spec_FewestEggs.j0]; rw [if_ff]; rfl
    · rw [if_neg (fun h => h2 h.2)]
      refine Ev.congr (f := fun k => spec_FewestEggs.j0 k a0 a1 true) (fun k => ?_) (Ev.step (f := fun k => some (0, false)) (fun k => ?_) (Ev.now _))
      · unfold spec_FewestEggs.f
        rw [flFloors_yes h1, Option.bind_some, if_pos rfl, l1In_no h2, Option.bind_some]; rfl
      · simp only [spec_FewestEggs.j0]; rw [if_pos trivial]
  · rw [if_neg (fun h => h1 h.1)]
    refine Ev.congr (f := fun k => spec_FewestEggs.j0 k a0 a1 true) (fun k => ?_) (Ev.step (f := fun k => some (0, false)) (fun k => ?_) (Ev.now _))
    · unfold spec_FewestEggs.f
      rw [flFloors_no h1, Option.bind_some, if_ff]
    · simp only [spec_FewestEggs.j0]; rw [if_pos trivial]

end Go.Proofs.Ytnbimnnocnhggaa.Pure
