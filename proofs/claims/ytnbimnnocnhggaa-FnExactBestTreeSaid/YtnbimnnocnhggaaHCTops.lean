/- The program's CountTrees and CountBestTrees answer what the count of trees says; no conditions. -/
import Derived.Test.YtnbimnnocnhggaaHCount
import Derived.Test.YtnbimnnocnhggaaHPred
namespace Go.Proofs.Ytnbimnnocnhggaa.Hand
open Go Go.Proofs Go.RowKit
set_option maxRecDepth 100000
set_option linter.unusedVariables false
theorem inn_nat {a b c : Int} (h : inn a b c = true) (hb : 0 ≤ b) : ∃ n : Nat, a = n ∧ b ≤ n ∧ (n : Int) ≤ c := by
  unfold inn at h; simp at h; exact ⟨a.toNat, by omega, by omega, by omega⟩
theorem isEggs_all (a : Int) (w : World) : Calls Try.prog 48 #[.int .i64 a] w fun r w' => r = .returned (.bool (inn a 1 10)) ∧ w = w' := by
  go_enter Try.func48, Try.ntmps48
  go_wp2_with (go_at_call 69; refine (within_all _ _ _ _).mono ?_; rintro e w' ⟨rfl, rfl⟩)
  go_ret
  exact ⟨rfl, rfl⟩
theorem isTreeSize_all (a : Int) (w : World) : Calls Try.prog 66 #[.int .i64 a] w fun r w' => r = .returned (.bool (inn a 0 30)) ∧ w = w' := by
  go_enter Try.func66, Try.ntmps66
  go_wp2_with (go_at_call 69; refine (within_all _ _ _ _).mono ?_; rintro e w' ⟨rfl, rfl⟩)
  go_ret
  exact ⟨rfl, rfl⟩
def bnd (x : Int) : Int × Bool := if x > 1000000000000000 then (0, false) else (x, true)
theorem bounded_calls (x : Int) (w : World) : Calls Try.prog 70 #[.int .i64 x, .int .i64 1000000000000000] w fun r w' => r = .returned (.tuple #[.int .i64 (bnd x).1, .bool (bnd x).2]) ∧ w = w' := by
  unfold bnd
  by_cases h : x > 1000000000000000
  · have h1 : decide ((1000000000000000 : Int) < x) = true := decide_eq_true h
    rw [if_pos h]
    go_enter Try.func70, Try.ntmps70
    go_wp2
    go_ret2
    exact ⟨rfl, rfl⟩
  · have h1 : decide ((1000000000000000 : Int) < x) = false := decide_eq_false h
    rw [if_neg h]
    go_enter Try.func70, Try.ntmps70
    go_wp2
    go_ret2
    exact ⟨rfl, rfl⟩
def countRes (e f t : Int) : Int × Bool := if inn e 1 10 && (inn f 0 30 && inn t 0 30) then bnd (wy t.toNat e.toNat f.toNat) else (0, false)
set_option maxHeartbeats 1000000 in
theorem CountTrees_calls (e f t : Int) (w : World) : Calls Try.prog 37 #[.int .i64 e, .int .i64 f, .int .i64 t] w fun r w' => r = .returned (.tuple #[.int .i64 (countRes e f t).1, .bool (countRes e f t).2]) ∧ Below w.heap.size w w' := by
  unfold countRes
  cases h1 : inn e 1 10 with
  | false =>
    go_enter Try.func37, Try.ntmps37
    go_wp2_with (first | (go_at_call 48; refine (isEggs_all _ _).mono ?_; rw [h1]; rintro e w' ⟨rfl, rfl⟩))
    go_ret2
    exact ⟨by simp, Below.refl _ _⟩
  | true =>
    cases h2 : inn f 0 30 with
    | false =>
      go_enter Try.func37, Try.ntmps37
      go_wp2_with (first | (go_at_call 48; refine (isEggs_all _ _).mono ?_; rw [h1]; rintro e w' ⟨rfl, rfl⟩) | (go_at_call 66; refine (isTreeSize_all _ _).mono ?_; rw [h2]; rintro e w' ⟨rfl, rfl⟩))
      go_ret2
      exact ⟨by simp, Below.refl _ _⟩
    | true =>
      cases h3 : inn t 0 30 with
      | false =>
        go_enter Try.func37, Try.ntmps37
        go_wp2_with (first | (go_at_call 48; refine (isEggs_all _ _).mono ?_; rw [h1]; rintro e w' ⟨rfl, rfl⟩) | (go_at_call 66; refine (isTreeSize_all _ _).mono ?_; rw [h2]; rintro e w' ⟨rfl, rfl⟩) | (go_at_call 69; refine (within_all _ _ _ _).mono ?_; rw [h3]; rintro e w' ⟨rfl, rfl⟩))
        go_ret2
        exact ⟨by simp, Below.refl _ _⟩
      | true =>
        obtain ⟨e, rfl, he1, he2⟩ := inn_nat h1 (by omega)
        obtain ⟨f, rfl, hf1, hf2⟩ := inn_nat h2 (by omega)
        obtain ⟨t, rfl, ht1, ht2⟩ := inn_nat h3 (by omega)
        rw [if_pos (by simp)]
        simp only [Int.toNat_natCast]
        have HC := Lib.hid (fun W => countTrees_calls e f t (by omega) (by omega) (by omega) W)
        generalize wy t e f = X at *
        go_enter Try.func37, Try.ntmps37
        go_wp2_with (first | (go_at_call 48; refine (isEggs_all _ _).mono ?_; rw [h1]; rintro e w' ⟨rfl, rfl⟩) | (go_at_call 66; refine (isTreeSize_all _ _).mono ?_; rw [h2]; rintro e w' ⟨rfl, rfl⟩) | (go_at_call 69; refine (within_all _ _ _ _).mono ?_; rw [h3]; rintro e w' ⟨rfl, rfl⟩) | (go_at_call 71; refine (HC.out _).mono ?_; rintro r w1 ⟨rfl, hb⟩; have HB := Lib.hid hb; clear hb) | (go_at_call 70; refine (bounded_calls _ _).mono ?_; rintro r w2 ⟨rfl, rfl⟩))
        go_ret2
        exact ⟨rfl, HB.out⟩
theorem fewT_small (e f : Nat) (he : 1 ≤ e) (hf : f ≤ 30) : fewT e (f : Int) ≤ 30 := by
  have h := (fewT_spec e he (f : Int) (by omega)).2
  by_cases c : fewT e (f : Int) ≤ 30
  · exact c
  · have h1 := h.2 30 (by omega)
    have h2 := reach_ge e he 30 (by omega)
    omega
def bestCount (e f : Int) : Int × Bool := if inn e 1 10 && inn f 0 30 then bnd (wy (fewT e.toNat f) e.toNat f.toNat) else (0, false)
set_option maxHeartbeats 1000000 in
theorem CountBestTrees_calls (e f : Int) (w : World) : Calls Try.prog 39 #[.int .i64 e, .int .i64 f] w fun r w' => r = .returned (.tuple #[.int .i64 (bestCount e f).1, .bool (bestCount e f).2]) ∧ Below w.heap.size w w' := by
  unfold bestCount
  cases h1 : inn e 1 10 with
  | false =>
    go_enter Try.func39, Try.ntmps39
    go_wp2_with (first | (go_at_call 48; refine (isEggs_all _ _).mono ?_; rw [h1]; rintro e w' ⟨rfl, rfl⟩))
    go_ret2
    exact ⟨by simp, Below.refl _ _⟩
  | true =>
    cases h2 : inn f 0 30 with
    | false =>
      go_enter Try.func39, Try.ntmps39
      go_wp2_with (first | (go_at_call 48; refine (isEggs_all _ _).mono ?_; rw [h1]; rintro e w' ⟨rfl, rfl⟩) | (go_at_call 66; refine (isTreeSize_all _ _).mono ?_; rw [h2]; rintro e w' ⟨rfl, rfl⟩))
      go_ret2
      exact ⟨by simp, Below.refl _ _⟩
    | true =>
      obtain ⟨e, rfl, he1, he2⟩ := inn_nat h1 (by omega)
      obtain ⟨f, rfl, hf1, hf2⟩ := inn_nat h2 (by omega)
      rw [if_pos (by simp)]
      simp only [Int.toNat_natCast]
      have hsm := fewT_small e f (by omega) (by omega)
      obtain ⟨g1, g2⟩ := fewT_spec e (by omega) (f : Int) (by omega)
      obtain ⟨t, ht⟩ : ∃ t, t = fewT e (f : Int) := ⟨_, rfl⟩
      rw [← ht] at hsm g1 g2 ⊢
      have G2 := Lib.hid g2
      clear ht g2
      have he10 : e ≤ 10 := by omega
      have HC := Lib.hid (fun W => countTrees_calls e f t he10 (by omega) hsm W)
      generalize wy t e f = X at *
      go_enter Try.func39, Try.ntmps39
      go_wp2_with (first | (go_at_call 48; refine (isEggs_all _ _).mono ?_; rw [h1]; rintro e w' ⟨rfl, rfl⟩) | (go_at_call 66; refine (isTreeSize_all _ _).mono ?_; rw [h2]; rintro e w' ⟨rfl, rfl⟩) | (go_at_call 50; refine (newReaches_calls _).mono ?_; rintro r w3 ⟨rfl, hT, hs, hb⟩; have HT := Lib.hid hT; have HB3 := Lib.hid hb; clear hT hb) | (go_at_call 59; refine (fewest_calls w.heap.size e (f : Int) t _ HT.out he10 g1 G2.out).mono ?_; rintro r w4 ⟨rfl, rfl⟩) | (go_at_call 71; refine (HC.out _).mono ?_; rintro r w1 ⟨rfl, hb⟩; have HB := Lib.hid hb; clear hb) | (go_at_call 70; refine (bounded_calls _ _).mono ?_; rintro r w2 ⟨rfl, rfl⟩))
      go_ret2
      exact ⟨rfl, HB3.out.trans (HB.out.mono HB3.out.size)⟩
end Go.Proofs.Ytnbimnnocnhggaa.Hand
