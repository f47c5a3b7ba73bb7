/- The program's FewestRounds answers as the reference's does, for every three numbers; no conditions. -/
import Derived.Test.YtnolocmcjcjjcaaQFnExactFewestRoundsx1
namespace Go.Proofs.Ytnolocmcjcjjcaa.Pure
open Go.RowKit Go.Proofs.Ytnolocmcjcjjcaa.QFnExactFewestRounds Go.Proofs.YtnolocmcjcjjcaaW.PrintWords Go.Proofs.YtnolocmcjcjjcaaW.PrintLast
set_option linter.unusedVariables false

theorem wrap64_small {x : Int} (h0 : -9223372036854775808 ≤ x) (h1 : x < 9223372036854775808) : wrap64 x = x := by
  unfold wrap64; omega
theorem l1In_some (a b c : Int) : spec_l1In.f a b c = some (decide (b ≤ a ∧ a ≤ c)) := by
  unfold spec_l1In.f
  by_cases h : a ≥ b
  · rw [if_pos h]; congr 1; rw [Bool.eq_iff_iff]; simp; omega
  · rw [if_neg h]; congr 1; symm; rw [decide_eq_false_iff_not]; omega
theorem l1In_yes {a b c : Int} (h : b ≤ a ∧ a ≤ c) : spec_l1In.f a b c = some true := by rw [l1In_some, decide_eq_true h]
theorem l1In_no {a b c : Int} (h : ¬ (b ≤ a ∧ a ≤ c)) : spec_l1In.f a b c = some false := by rw [l1In_some, decide_eq_false h]
theorem if_ff {α : Type} (x y : α) : (if false = true then x else y) = y := if_neg (by decide)

theorem inn_dec (a b c : Int) : Hand.inn a b c = decide (b ≤ a ∧ a ≤ c) := by unfold Hand.inn; rw [Bool.decide_and]
theorem inn_some (a b c : Int) : spec_l1In.f a b c = some (Hand.inn a b c) := by rw [l1In_some, inn_dec]
theorem rd_nat (l : List Int) (i : Nat) (h : i < l.length) : rd l (i : Int) = l[i] := by unfold rd; simp [h]

theorem set_at {α : Type} (a : List α) (i : Nat) (hi : a.length = i) (z v : α) (rest : List α) : (a ++ z :: rest).set i v = a ++ v :: rest := by
  subst hi
  rw [List.set_append_right _ _ (Nat.le_refl _), Nat.sub_self, List.set_cons_zero]
def row (h t E : Nat) : List Int := (List.range (E + 1)).map fun e => Hand.rr h t e
theorem row_len (h t E : Nat) : (row h t E).length = E + 1 := by unfold row; simp
theorem row_rd (h t E e : Nat) (he : e ≤ E) : rd (row h t E) (e : Int) = Hand.rr h t e := by
  rw [rd_nat _ _ (by rw [row_len]; omega)]; unfold row; simp
theorem row_zero (h E : Nat) : row h 0 E = List.replicate (E + 1) 0 := by
  unfold row
  rw [List.eq_replicate_iff]
  refine ⟨by simp, fun b hb => ?_⟩
  obtain ⟨e, _, rfl⟩ := List.mem_map.mp hb
  rfl
theorem least_min (a : Int) : spec_l1Least.f a 1000000000 = some (min a 1000000000) := by
  unfold spec_l1Least.f
  by_cases h : a < 1000000000
  · rw [if_pos h]; congr 1; omega
  · rw [if_neg h]; congr 1; omega
theorem least_nat (a b : Nat) : spec_l1Least.f (a : Int) (b : Int) = some ((min a b : Nat) : Int) := by
  unfold spec_l1Least.f
  by_cases h : (a : Int) < (b : Int)
  · rw [if_pos h]; congr 1; omega
  · rw [if_neg h]; congr 1; omega
theorem roMore_l1 (h t E i own : Nat) (hE : E ≤ 10) (hi : i ≤ E) (ho : own ≤ i) (X : List Int) (hX : X.length = E + 1) (r : List Int)
    (hr : Ev (fun k => spec_roMore.l0 k (row h t E) (h : Int) (X.set i (min (Hand.cov (Hand.rr h t) i own) 1000000000)) ((i + 1 : Nat) : Int)) r) (d : Nat) :
    ∀ j : Nat, j + d = own + 1 → Ev (fun k => spec_roMore.l1 k (row h t E) (h : Int) X (i : Int) (own : Int) ((own : Int) + Hand.sumD (fun j => Hand.rr h t (i - j)) j) (j : Int)) r := by
  induction d with
  | zero =>
    intro j hj
    obtain rfl : j = own + 1 := by omega
    refine Ev.step (fun k => ?_) hr
    simp only [spec_roMore.l1]
    rw [if_neg (by omega), least_min, Option.bind_some, if_pos (by omega), if_pos (by omega), Int.toNat_natCast, wrap64_small (by omega) (by omega)]
    rfl
  | succ d ih =>
    intro j hj
    have HW := Aside0.mk (show wrap64 ((i : Int) - (j : Int)) = ((i - j : Nat) : Int) ∧ wrap64 ((j : Int) + 1) = ((j + 1 : Nat) : Int) ∧ wrap64 ((own : Int) + Hand.sumD (fun j => Hand.rr h t (i - j)) j + Hand.rr h t (i - j)) = (own : Int) + Hand.sumD (fun j => Hand.rr h t (i - j)) (j + 1) by
      have h1 := Hand.sumD_bd (fun j => Hand.rr h t (i - j)) (fun j => Hand.rr_bd h t (i - j)) j
      have h2 := Hand.rr_bd h t (i - j)
      refine ⟨(wrap64_small (by omega) (by omega)).trans (by omega), (wrap64_small (by omega) (by omega)).trans (by omega), ?_⟩
      simp only [Hand.sumD]
      exact (wrap64_small (by omega) (by omega)).trans (by omega))
    refine Ev.step (fun k => ?_) (ih (j + 1) (by omega))
    simp only [spec_roMore.l1]
    rw [if_pos (by omega), HW.out.1, if_pos (by omega), if_pos (by rw [row_len]; omega), row_rd h t E (i - j) (by omega), HW.out.2.1, HW.out.2.2]
theorem roMore_l0 (h t E : Nat) (hE : E ≤ 10) (d : Nat) : ∀ i : Nat, 1 ≤ i → i + d = E + 1 →
    Ev (fun k => spec_roMore.l0 k (row h t E) (h : Int) (((List.range i).map fun e => Hand.rr h (t + 1) e) ++ List.replicate d 0) (i : Int)) (row h (t + 1) E) := by
  induction d with
  | zero =>
    intro i h1 hi
    obtain rfl : i = E + 1 := by omega
    refine Ev.step (f := fun _ => some (row h (t + 1) E)) (fun k => ?_) (Ev.now _)
    simp only [spec_roMore.l0]
    rw [if_neg (by rw [row_len]; omega), List.replicate_zero, List.append_nil]
    rfl
  | succ d ih =>
    intro i h1 hi
    have hnext := ih (i + 1) (by omega) (by omega)
    have hset : (((List.range i).map fun e => Hand.rr h (t + 1) e) ++ List.replicate (d + 1) 0).set i (min (Hand.cov (Hand.rr h t) i (min i h)) 1000000000) = ((List.range (i + 1)).map fun e => Hand.rr h (t + 1) e) ++ List.replicate d 0 := by
      rw [List.replicate_succ, set_at _ i (by simp), List.range_succ, List.map_append, List.append_assoc]
      congr 1
      show _ = (Hand.rr h (t + 1) i) :: List.replicate d 0
      congr 1
      simp only [Hand.rr]
      rw [if_neg (by omega), Nat.min_comm h i]
      omega
    have hin := roMore_l1 h t E i (min i h) hE (by omega) (by omega) (((List.range i).map fun e => Hand.rr h (t + 1) e) ++ List.replicate (d + 1) 0) (by simp; omega) (row h (t + 1) E) (by rw [hset]; exact hnext) (min i h + 1) 0 (by omega)
    refine Ev.step (fun k => ?_) hin
    simp only [spec_roMore.l0]
    rw [if_pos (by rw [row_len]; omega), least_nat, Option.bind_some]
    simp only [Hand.sumD, Int.add_zero]
    rfl
theorem roMore_ev (h t E : Nat) (hE : E ≤ 10) : Ev (fun k => spec_roMore.f k (row h t E) (h : Int)) (row h (t + 1) E) := by
  have h0 := roMore_l0 h t E hE E 1 (by omega) (by omega)
  refine Ev.congr (fun k => ?_) h0
  unfold spec_roMore.f
  rw [row_len, if_pos (by omega), Int.toNat_natCast, if_pos (by omega)]
  congr 1

theorem sumD_first (f : Nat → Int) (hf : ∀ j, 0 ≤ f j) : ∀ k, f 0 ≤ Hand.sumD f (k + 1)
  | 0 => by simp [Hand.sumD]
  | k + 1 => by have := sumD_first f hf k; have := hf (k + 1); simp only [Hand.sumD] at *; omega
theorem rr_ge (h e : Nat) (hh : 1 ≤ h) (he : 1 ≤ e) : ∀ t : Nat, t ≤ 1000 → (t : Int) ≤ Hand.rr h t e
  | 0, _ => by simp [Hand.rr]
  | t + 1, ht => by
    have h1 := rr_ge h e hh he t (by omega)
    have h2 := sumD_first (fun j => Hand.rr h t (e - j)) (fun j => (Hand.rr_bd h t (e - j)).1) (min h e)
    simp only [Nat.sub_zero] at h2
    simp only [Hand.rr]
    rw [if_neg (by omega)]
    unfold Hand.cov
    omega
theorem roFew_go (h e : Nat) (f : Int) (hh : 1 ≤ h) (he : 1 ≤ e) (hE : e ≤ 10) (hf : f ≤ 1000) (d : Nat) : ∀ t : Nat, t + d = 1000 →
    Ev (fun k => spec_roFew.l0 k (e : Int) (h : Int) f (row h t e) (t : Int)) ((Hand.firstT (fun t => decide (Hand.rr h t e ≥ f)) 1000 (d + 1) t : Nat) : Int) := by
  induction d with
  | zero =>
    intro t ht
    have hge := rr_ge h e hh he t (by omega)
    have hp : decide (Hand.rr h t e ≥ f) = true := decide_eq_true (by omega)
    simp only [Hand.firstT]
    rw [if_pos hp]
    refine Ev.step (f := fun _ => some (t : Int)) (fun k => ?_) (Ev.now _)
    simp only [spec_roFew.l0]
    rw [if_pos (by omega), if_pos (by rw [row_len]; omega), row_rd h t e e (Nat.le_refl _), if_neg (by omega)]
  | succ d ih =>
    intro t ht
    rw [show Hand.firstT (fun t => decide (Hand.rr h t e ≥ f)) 1000 (d + 1 + 1) t = if decide (Hand.rr h t e ≥ f) then t else Hand.firstT (fun t => decide (Hand.rr h t e ≥ f)) 1000 (d + 1) (t + 1) from rfl]
    by_cases c : Hand.rr h t e ≥ f
    · rw [if_pos (decide_eq_true c)]
      refine Ev.step (f := fun _ => some (t : Int)) (fun k => ?_) (Ev.now _)
      simp only [spec_roFew.l0]
      rw [if_pos (by omega), if_pos (by rw [row_len]; omega), row_rd h t e e (Nat.le_refl _), if_neg (by omega)]
    · rw [if_neg (by simpa using c)]
      refine Ev.step (f := fun k => (spec_roMore.f k (row h t e) (h : Int)).bind fun x => (spec_roFew.l0 k (e : Int) (h : Int) f x ((t + 1 : Nat) : Int))) (fun k => ?_) (Ev.bind (roMore_ev h t e hE) (ih (t + 1) (by omega)))
      simp only [spec_roFew.l0]
      rw [if_pos (by omega), if_pos (by rw [row_len]; omega), row_rd h t e e (Nat.le_refl _), if_pos (by omega), wrap64_small (by omega) (by omega)]
      rfl
theorem roFew_ev (h e : Nat) (f : Int) (hh : 1 ≤ h) (he : 1 ≤ e) (hE : e ≤ 10) (hf : f ≤ 1000) : Ev (fun k => spec_roFew.f k (e : Int) (h : Int) f) ((Hand.fewR h e f : Nat) : Int) := by
  have h1 := roFew_go h e f hh he hE hf 1000 0 (by omega)
  refine Ev.congr (fun k => ?_) h1
  unfold spec_roFew.f
  rw [wrap64_small (by omega) (by omega), if_pos (by omega), show ((e : Int) + 1).toNat = e + 1 by omega, if_pos (by omega), row_zero]
  rfl
theorem roFloors_some (e h f : Int) : spec_roFloors.f e h f = some (Hand.house e h f) := by
  unfold spec_roFloors.f spec_roSize.f spec_flEggs.f Hand.house
  rw [inn_some, inn_some, inn_some]
  cases Hand.inn e 1 10 <;> cases Hand.inn h 1 10 <;> simp
theorem house_nat {e h f : Int} (hc : Hand.house e h f = true) : ∃ e' h' f' : Nat, e = e' ∧ h = h' ∧ f = f' ∧ 1 ≤ e' ∧ e' ≤ 10 ∧ 1 ≤ h' ∧ h' ≤ 10 ∧ f' ≤ 1000 := by
  unfold Hand.house at hc
  rw [Bool.and_eq_true, Bool.and_eq_true] at hc
  obtain ⟨e, rfl, _, _⟩ := Hand.inn_nat hc.1 (by omega)
  obtain ⟨h, rfl, _, _⟩ := Hand.inn_nat hc.2.1 (by omega)
  obtain ⟨f, rfl, _, _⟩ := Hand.inn_nat hc.2.2 (by omega)
  exact ⟨e, h, f, rfl, rfl, rfl, by omega, by omega, by omega, by omega, by omega⟩

theorem spec_ev (e h f : Int) : Ev (fun k => spec_FewestRounds.f k e h f) (Hand.fewRes e h f) := by
  unfold Hand.fewRes
  cases hc : Hand.house e h f with
  | false =>
    rw [if_ff]
    refine Ev.congr (f := fun _ => some (0, false)) (fun k => ?_) (Ev.now _)
    unfold spec_FewestRounds.f
    rw [roFloors_some, hc, Option.bind_some, if_ff]
  | true =>
    rw [if_pos rfl]
    obtain ⟨e', h', f', rfl, rfl, rfl, h1, h2, h3, h4, h5⟩ := house_nat hc
    simp only [Int.toNat_natCast]
    refine Ev.congr (f := fun k => (spec_roFew.f k (e' : Int) (h' : Int) (f' : Int)).bind fun t => (some (t, true))) (fun k => ?_) (Ev.bind (roFew_ev h' e' f' h3 h1 h2 (by omega)) (Ev.now _))
    unfold spec_FewestRounds.f
    rw [roFloors_some, hc, Option.bind_some, if_pos rfl]
theorem law_of (a0 a1 a2 : Int) (r : Int × Bool) (hs : Ev (fun k => spec_FewestRounds.f k a0 a1 a2) r) (hi : Ev (fun k => impl_FewestRounds.f k a0 a1 a2) r) : ∃ k, laws_FnExactFewestRounds.f k a0 a1 a2 = some true := by
  apply Ev.rounds
  unfold laws_FnExactFewestRounds.f
  refine Ev.bind hs ?_
  refine Ev.bind hi ?_
  refine Ev.congr (fun k => if_pos rfl) ?_
  refine Ev.congr (fun k => if_neg (by simp)) ?_
  exact Ev.now _
theorem FnExactFewestRounds : laws_FnExactFewestRounds.Pure := by
  intro a0 a1 a2 _ _ _
  exact law_of a0 a1 a2 _ (spec_ev a0 a1 a2) (Ev.now _)

end Go.Proofs.Ytnolocmcjcjjcaa.Pure
