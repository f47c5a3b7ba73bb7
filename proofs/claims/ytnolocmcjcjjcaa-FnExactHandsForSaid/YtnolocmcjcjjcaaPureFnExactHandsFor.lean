/- The program's HandsFor answers as the reference's does, for every three numbers; no conditions. -/
import Derived.Test.YtnolocmcjcjjcaaQFnExactHandsForx1
namespace Go.Proofs.Ytnolocmcjcjjcaa.Pure
open Go.RowKit Go.Proofs.Ytnolocmcjcjjcaa.QFnExactHandsFor Go.Proofs.YtnolocmcjcjjcaaW.PrintWords Go.Proofs.YtnolocmcjcjjcaaW.PrintLast
set_option linter.unusedVariables false

theorem wrap64_small {x : Int} (h0 : -9223372036854775808 ≤ x) (h1 : x < 9223372036854775808) : wrap64 x = x := by
  unfold wrap64; omega
theorem l1In_some (a b c : Int) : spec_l1In.f a b c = some (decide (b ≤ a ∧ a ≤ c)) := by
  unfold spec_l1In.f
  by_cases h : a ≥ b
  · rw [if_pos h]; congr 1; rw [Bool.eq_iff_iff]; simp; omega
  · rw [if_neg h]; congr 1; symm; rw [decide_eq_false_iff_not]; omega
theorem l1In_yes {a b c : Int} (h : b ≤ a ∧ a ≤ c) : spec_l1In.f a b c = some true := by rw [l1In_some, decide_eq_true h]
theorem l1In_no {a b c : Int} (h : ¬ (b ≤ a ∧ a ≤ c)) : spec_l1In.f a b c = some false := by rw [l1In_some, decide_eq_false h]
theorem if_ff {α : Type} (x y : α) : (if false = true then x else y) = y := if_neg (by decide)

theorem inn_dec (a b c : Int) : Hand.inn a b c = decide (b ≤ a ∧ a ≤ c) := by unfold Hand.inn; rw [Bool.decide_and]
theorem inn_some (a b c : Int) : spec_l1In.f a b c = some (Hand.inn a b c) := by rw [l1In_some, inn_dec]
theorem rd_nat (l : List Int) (i : Nat) (h : i < l.length) : rd l (i : Int) = l[i] := by unfold rd; simp [h]

theorem set_at {α : Type} (a : List α) (i : Nat) (hi : a.length = i) (z v : α) (rest : List α) : (a ++ z :: rest).set i v = a ++ v :: rest := by
  subst hi
  rw [List.set_append_right _ _ (Nat.le_refl _), Nat.sub_self, List.set_cons_zero]
def row (h t E : Nat) : List Int := (List.range (E + 1)).map fun e => Hand.rr h t e
theorem row_len (h t E : Nat) : (row h t E).length = E + 1 := by unfold row; simp
theorem row_rd (h t E e : Nat) (he : e ≤ E) : rd (row h t E) (e : Int) = Hand.rr h t e := by
  rw [rd_nat _ _ (by rw [row_len]; omega)]; unfold row; simp
theorem row_zero (h E : Nat) : row h 0 E = List.replicate (E + 1) 0 := by
  unfold row
  rw [List.eq_replicate_iff]
  refine ⟨by simp, fun b hb => ?_⟩
  obtain ⟨e, _, rfl⟩ := List.mem_map.mp hb
  rfl
theorem least_min (a : Int) : spec_l1Least.f a 1000000000 = some (min a 1000000000) := by
  unfold spec_l1Least.f
  by_cases h : a < 1000000000
  · rw [if_pos h]; congr 1; omega
  · rw [if_neg h]; congr 1; omega
theorem least_nat (a b : Nat) : spec_l1Least.f (a : Int) (b : Int) = some ((min a b : Nat) : Int) := by
  unfold spec_l1Least.f
  by_cases h : (a : Int) < (b : Int)
  · rw [if_pos h]; congr 1; omega
  · rw [if_neg h]; congr 1; omega
theorem roMore_l1 (h t E i own : Nat) (hE : E ≤ 10) (hi : i ≤ E) (ho : own ≤ i) (X : List Int) (hX : X.length = E + 1) (r : List Int)
    (hr : Ev (fun k => spec_roMore.l0 k (row h t E) (h : Int) (X.set i (min (Hand.cov (Hand.rr h t) i own) 1000000000)) ((i + 1 : Nat) : Int)) r) (d : Nat) :
    ∀ j : Nat, j + d = own + 1 → Ev (fun k => spec_roMore.l1 k (row h t E) (h : Int) X (i : Int) (own : Int) ((own : Int) + Hand.sumD (fun j => Hand.rr h t (i - j)) j) (j : Int)) r := by
  induction d with
  | zero =>
    intro j hj
    obtain rfl : j = own + 1 := by omega
    refine Ev.step (fun k => ?_) hr
    simp only [spec_roMore.l1]
    rw [if_neg (by omega), least_min, Option.bind_some, if_pos (by omega), if_pos (by omega), Int.toNat_natCast, wrap64_small (by omega) (by omega)]
    rfl
  | succ d ih =>
    intro j hj
    have HW := Aside0.mk (show wrap64 ((i : Int) - (j : Int)) = ((i - j : Nat) : Int) ∧ wrap64 ((j : Int) + 1) = ((j + 1 : Nat) : Int) ∧ wrap64 ((own : Int) + Hand.sumD (fun j => Hand.rr h t (i - j)) j + Hand.rr h t (i - j)) = (own : Int) + Hand.sumD (fun j => Hand.rr h t (i - j)) (j + 1) by
      have h1 := Hand.sumD_bd (fun j => Hand.rr h t (i - j)) (fun j => Hand.rr_bd h t (i - j)) j
      have h2 := Hand.rr_bd h t (i - j)
      refine ⟨(wrap64_small (by omega) (by omega)).trans (by omega), (wrap64_small (by omega) (by omega)).trans (by omega), ?_⟩
      simp only [Hand.sumD]
      exact (wrap64_small (by omega) (by omega)).trans (by omega))
    refine Ev.step (fun k => ?_) (ih (j + 1) (by omega))
    simp only [spec_roMore.l1]
    rw [if_pos (by omega), HW.out.1, if_pos (by omega), if_pos (by rw [row_len]; omega), row_rd h t E (i - j) (by omega), HW.out.2.1, HW.out.2.2]
theorem roMore_l0 (h t E : Nat) (hE : E ≤ 10) (d : Nat) : ∀ i : Nat, 1 ≤ i → i + d = E + 1 →
    Ev (fun k => spec_roMore.l0 k (row h t E) (h : Int) (((List.range i).map fun e => Hand.rr h (t + 1) e) ++ List.replicate d 0) (i : Int)) (row h (t + 1) E) := by
  induction d with
  | zero =>
    intro i h1 hi
    obtain rfl : i = E + 1 := by omega
    refine Ev.step (f := fun _ => some (row h (t + 1) E)) (fun k => ?_) (Ev.now _)
    simp only [spec_roMore.l0]
    rw [if_neg (by rw [row_len]; omega), List.replicate_zero, List.append_nil]
    rfl
  | succ d ih =>
    intro i h1 hi
    have hnext := ih (i + 1) (by omega) (by omega)
    have hset : (((List.range i).map fun e => Hand.rr h (t + 1) e) ++ List.replicate (d + 1) 0).set i (min (Hand.cov (Hand.rr h t) i (min i h)) 1000000000) = ((List.range (i + 1)).map fun e => Hand.rr h (t + 1) e) ++ List.replicate d 0 := by
      rw [List.replicate_succ, set_at _ i (by simp), List.range_succ, List.map_append, List.append_assoc]
      congr 1
      show _ = (Hand.rr h (t + 1) i) :: List.replicate d 0
      congr 1
      simp only [Hand.rr]
      rw [if_neg (by omega), Nat.min_comm h i]
      omega
    have hin := roMore_l1 h t E i (min i h) hE (by omega) (by omega) (((List.range i).map fun e => Hand.rr h (t + 1) e) ++ List.replicate (d + 1) 0) (by simp; omega) (row h (t + 1) E) (by rw [hset]; exact hnext) (min i h + 1) 0 (by omega)
    refine Ev.step (fun k => ?_) hin
    simp only [spec_roMore.l0]
    rw [if_pos (by rw [row_len]; omega), least_nat, Option.bind_some]
    simp only [Hand.sumD, Int.add_zero]
    rfl
theorem roMore_ev (h t E : Nat) (hE : E ≤ 10) : Ev (fun k => spec_roMore.f k (row h t E) (h : Int)) (row h (t + 1) E) := by
  have h0 := roMore_l0 h t E hE E 1 (by omega) (by omega)
  refine Ev.congr (fun k => ?_) h0
  unfold spec_roMore.f
  rw [row_len, if_pos (by omega), Int.toNat_natCast, if_pos (by omega)]
  congr 1

theorem roReach_l0 (h E : Nat) (hE : E ≤ 10) (d : Nat) : ∀ s : Nat, Ev (fun k => spec_roReach.l0 k (h : Int) (d : Int) (row h s E)) (row h (s + d) E) ∨ d > 1000 := by
  induction d with
  | zero =>
    intro s
    left
    refine Ev.step (f := fun _ => some (row h s E)) (fun k => ?_) (Ev.now _)
    simp only [spec_roReach.l0]
    rw [if_neg (by omega)]
  | succ d ih =>
    intro s
    by_cases hd : d + 1 > 1000
    · exact .inr hd
    · left
      rcases ih (s + 1) with h1 | h1
      · rw [show s + (d + 1) = s + 1 + d by omega]
        refine Ev.step (f := fun k => (spec_roMore.f k (row h s E) (h : Int)).bind fun t => (spec_roReach.l0 k (h : Int) (d : Int) t)) (fun k => ?_) (Ev.bind (roMore_ev h s E hE) h1)
        simp only [spec_roReach.l0]
        rw [if_pos (by omega), wrap64_small (by omega) (by omega), show (((d + 1 : Nat) : Int) - 1) = (d : Int) by omega]
      · omega
theorem roReach_ev (h t E : Nat) (hE : E ≤ 10) (ht : t ≤ 1000) : Ev (fun k => spec_roReach.f k (E : Int) (h : Int) (t : Int)) (row h t E) := by
  rcases roReach_l0 h E hE t 0 with h1 | h1
  · rw [Nat.zero_add] at h1
    refine Ev.congr (fun k => ?_) h1
    unfold spec_roReach.f
    rw [wrap64_small (by omega) (by omega), if_pos (by omega), show ((E : Int) + 1).toNat = E + 1 by omega, if_pos (by omega), row_zero]
  · omega

theorem hands_go (e t : Nat) (f : Int) (hE : e ≤ 10) (ht : t ≤ 1000) (d : Nat) : ∀ h : Nat, h + d = 11 → Ev (fun k => spec_HandsFor.l0 k (e : Int) f (t : Int) (h : Int)) (Hand.handF e t f d h) := by
  induction d with
  | zero =>
    intro h hd
    refine Ev.step (f := fun _ => some (0, false)) (fun k => ?_) (Ev.now _)
    simp only [spec_HandsFor.l0]; rw [if_neg (by omega)]
  | succ d ih =>
    intro h hd
    have hw : wrap64 ((h : Int) + 1) = ((h + 1 : Nat) : Int) := wrap64_small (by omega) (by omega)
    refine Ev.step (f := fun k => (spec_roReach.f k (e : Int) (h : Int) (t : Int)).bind fun x => (if (0 : Int) ≤ (e : Int) then (if (e : Int) < (x.length : Int) then (if (rd x (e : Int)) ≥ f then (some ((h : Int), true)) else (spec_HandsFor.l0 k (e : Int) f (t : Int) ((h + 1 : Nat) : Int))) else (none)) else (none))) (fun k => ?_) (Ev.bind (roReach_ev h t e hE ht) ?_)
    · simp only [spec_HandsFor.l0]
      rw [if_pos (by omega), hw]
    · refine Ev.congr (fun k => if_pos (by omega)) ?_
      refine Ev.congr (fun k => if_pos (by rw [row_len]; omega)) ?_
      rw [row_rd h t e e (Nat.le_refl _)]
      show Ev _ (if Hand.rr h t e ≥ f then ((h : Int), true) else Hand.handF e t f d (h + 1))
      by_cases c : Hand.rr h t e ≥ f
      · rw [if_pos c]; exact Ev.congr (fun k => if_pos c) (Ev.now _)
      · rw [if_neg c]; exact Ev.congr (fun k => if_neg c) (ih (h + 1) (by omega))
theorem spec_ev (e f t : Int) : Ev (fun k => spec_HandsFor.f k e f t) (Hand.handRes e f t) := by
  have hno : Ev (fun k => spec_HandsFor.j0 k e f t true) (0, false) := Ev.step (f := fun _ => some (0, false)) (fun k => by simp only [spec_HandsFor.j0]; exact if_pos trivial) (Ev.now _)
  have h11 : Hand.inn (1 : Int) 1 10 = true := rfl
  unfold Hand.handRes Hand.house
  rw [h11, Bool.true_and]
  cases h1 : Hand.inn e 1 10 with
  | false =>
    rw [Bool.false_and, Bool.false_and, if_ff]
    refine Ev.congr (fun k => ?_) hno
    unfold spec_HandsFor.f spec_flEggs.f
    rw [inn_some, h1, Option.bind_some, Option.bind_some, if_ff]
  | true =>
    cases h2 : Hand.inn f 0 1000 with
    | false =>
      rw [Bool.and_false, Bool.false_and, if_ff]
      refine Ev.congr (fun k => ?_) hno
      unfold spec_HandsFor.f spec_flEggs.f
      rw [inn_some, h1, Option.bind_some, Option.bind_some, if_pos rfl, inn_some, h2, Option.bind_some, if_ff]
    | true =>
      cases h3 : Hand.inn t 0 60 with
      | false =>
        rw [Bool.and_false, if_ff]
        refine Ev.congr (fun k => ?_) hno
        unfold spec_HandsFor.f spec_flEggs.f
        rw [inn_some, h1, Option.bind_some, Option.bind_some, if_pos rfl, inn_some, h2, Option.bind_some, if_pos rfl, inn_some, h3, Option.bind_some]
        rfl
      | true =>
        obtain ⟨e, rfl, he1, he2⟩ := Hand.inn_nat h1 (by omega)
        obtain ⟨t, rfl, ht1, ht2⟩ := Hand.inn_nat h3 (by omega)
        rw [if_pos (by rfl)]
        simp only [Int.toNat_natCast]
        have hg := hands_go e t f (by omega) (by omega) 10 1 (by omega)
        refine Ev.congr (f := fun k => spec_HandsFor.j0 k (e : Int) f (t : Int) false) (fun k => ?_) (Ev.step (fun k => ?_) hg)
        · unfold spec_HandsFor.f spec_flEggs.f
          rw [inn_some, h1, Option.bind_some, Option.bind_some, if_pos rfl, inn_some, h2, Option.bind_some, if_pos rfl, inn_some, h3, Option.bind_some]
          rfl
        · simp only [spec_HandsFor.j0]; rw [if_ff]; rfl
theorem law_of (a0 a1 a2 : Int) (r : Int × Bool) (hs : Ev (fun k => spec_HandsFor.f k a0 a1 a2) r) (hi : Ev (fun k => impl_HandsFor.f k a0 a1 a2) r) : ∃ k, laws_FnExactHandsFor.f k a0 a1 a2 = some true := by
  apply Ev.rounds
  unfold laws_FnExactHandsFor.f
  refine Ev.bind hs ?_
  refine Ev.bind hi ?_
  refine Ev.congr (fun k => if_pos rfl) ?_
  refine Ev.congr (fun k => if_neg (by simp)) ?_
  exact Ev.now _
theorem FnExactHandsFor : laws_FnExactHandsFor.Pure := by
  intro a0 a1 a2 _ _ _
  exact law_of a0 a1 a2 _ (spec_ev a0 a1 a2) (Ev.now _)

end Go.Proofs.Ytnolocmcjcjjcaa.Pure
