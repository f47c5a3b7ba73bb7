/- The program's RoundReach, FewestRounds and HandsFor answer what the table of rounds says; no conditions. -/
import Derived.Test.YtnolocmcjcjjcaaHRound
namespace Go.Proofs.Ytnolocmcjcjjcaa.Hand
open Go Go.Proofs Go.RowKit
set_option maxRecDepth 100000
set_option linter.unusedVariables false

def inn (a b c : Int) : Bool := decide (b ≤ a) && decide (a ≤ c)
theorem inn_nat {a b c : Int} (h : inn a b c = true) (hb : 0 ≤ b) : ∃ n : Nat, a = n ∧ b ≤ n ∧ (n : Int) ≤ c := by
  unfold inn at h; simp at h; exact ⟨a.toNat, by omega, by omega, by omega⟩
theorem within_all (a b c : Int) (w : World) : Calls Try.prog 54 #[.int .i64 a, .int .i64 b, .int .i64 c] w fun r w' => r = .returned (.bool (inn a b c)) ∧ w = w' := by
  unfold inn
  by_cases h1 : b ≤ a
  · by_cases h2 : a ≤ c
    · go_enter Try.func54, Try.ntmps54
      go_wp2
      go_ret
      exact ⟨by simp [h1, h2], rfl⟩
    · have h3 : decide (a ≤ c) = false := by simpa using h2
      clear h2
      go_enter Try.func54, Try.ntmps54
      go_wp2
      go_ret
      exact ⟨by simp [h1, h3], rfl⟩
  · have h2 : decide (b ≤ a) = false := by simpa using h1
    clear h1
    go_enter Try.func54, Try.ntmps54
    go_wp2
    go_ret
    exact ⟨by simp [h2], rfl⟩
theorem isEggs_all (a : Int) (w : World) : Calls Try.prog 39 #[.int .i64 a] w fun r w' => r = .returned (.bool (inn a 1 10)) ∧ w = w' := by
  go_enter Try.func39, Try.ntmps39
  go_wp2_with (go_at_call 54; refine (within_all _ _ _ _).mono ?_; rintro e w' ⟨rfl, rfl⟩)
  go_ret
  exact ⟨rfl, rfl⟩
theorem isHands_all (a : Int) (w : World) : Calls Try.prog 40 #[.int .i64 a] w fun r w' => r = .returned (.bool (inn a 1 10)) ∧ w = w' := by
  go_enter Try.func40, Try.ntmps40
  go_wp2_with (go_at_call 54; refine (within_all _ _ _ _).mono ?_; rintro e w' ⟨rfl, rfl⟩)
  go_ret
  exact ⟨rfl, rfl⟩
theorem isRounds_all (a : Int) (w : World) : Calls Try.prog 41 #[.int .i64 a] w fun r w' => r = .returned (.bool (inn a 0 60)) ∧ w = w' := by
  go_enter Try.func41, Try.ntmps41
  go_wp2_with (go_at_call 54; refine (within_all _ _ _ _).mono ?_; rintro e w' ⟨rfl, rfl⟩)
  go_ret
  exact ⟨rfl, rfl⟩
def house (e h f : Int) : Bool := inn e 1 10 && (inn h 1 10 && inn f 0 1000)
theorem house_all (e h f : Int) (w : World) : Calls Try.prog 44 #[.int .i64 e, .int .i64 h, .int .i64 f] w fun r w' => r = .returned (.bool (house e h f)) ∧ w = w' := by
  unfold house
  cases h1 : inn e 1 10 <;> cases h2 : inn h 1 10 <;>
  (go_enter Try.func44, Try.ntmps44
   go_wp2_with (first | (go_at_call 39; refine (isEggs_all _ _).mono ?_; rw [h1]; rintro e w' ⟨rfl, rfl⟩) | (go_at_call 40; refine (isHands_all _ _).mono ?_; rw [h2]; rintro e w' ⟨rfl, rfl⟩) | (go_at_call 54; refine (within_all _ _ _ _).mono ?_; rintro e w' ⟨rfl, rfl⟩))
   go_ret
   exact ⟨by simp, rfl⟩)

def reachRes (e h t : Int) : Int × Bool := if inn e 1 10 && (inn h 1 10 && inn t 0 60) then (rr h.toNat t.toNat e.toNat, true) else (0, false)
theorem below_newR {h : Nat} {w w' : World} (H : InvR h w w' 11011) : Below w.heap.size w w' := H.below
set_option maxHeartbeats 1000000 in
theorem RoundReach_calls (e h t : Int) (w : World) : Calls Try.prog 13 #[.int .i64 e, .int .i64 h, .int .i64 t] w fun r w' => r = .returned (.tuple #[.int .i64 (reachRes e h t).1, .bool (reachRes e h t).2]) ∧ Below w.heap.size w w' := by
  unfold reachRes
  cases h1 : inn e 1 10 with
  | false =>
    go_enter Try.func13, Try.ntmps13
    go_wp2_with (first | (go_at_call 39; refine (isEggs_all _ _).mono ?_; rw [h1]; rintro e w' ⟨rfl, rfl⟩))
    go_ret2
    exact ⟨by simp, Below.refl _ _⟩
  | true =>
    cases h2 : inn h 1 10 with
    | false =>
      go_enter Try.func13, Try.ntmps13
      go_wp2_with (first | (go_at_call 39; refine (isEggs_all _ _).mono ?_; rw [h1]; rintro e w' ⟨rfl, rfl⟩) | (go_at_call 40; refine (isHands_all _ _).mono ?_; rw [h2]; rintro e w' ⟨rfl, rfl⟩))
      go_ret2
      exact ⟨by simp, Below.refl _ _⟩
    | true =>
      cases h3 : inn t 0 60 with
      | false =>
        go_enter Try.func13, Try.ntmps13
        go_wp2_with (first | (go_at_call 39; refine (isEggs_all _ _).mono ?_; rw [h1]; rintro e w' ⟨rfl, rfl⟩) | (go_at_call 40; refine (isHands_all _ _).mono ?_; rw [h2]; rintro e w' ⟨rfl, rfl⟩) | (go_at_call 41; refine (isRounds_all _ _).mono ?_; rw [h3]; rintro e w' ⟨rfl, rfl⟩))
        go_ret2
        exact ⟨by simp, Below.refl _ _⟩
      | true =>
        obtain ⟨e, rfl, he1, he2⟩ := inn_nat h1 (by omega)
        obtain ⟨h, rfl, hh1, hh2⟩ := inn_nat h2 (by omega)
        obtain ⟨t, rfl, ht1, ht2⟩ := inn_nat h3 (by omega)
        have i1 : (t : Int) < 1001 := by omega
        have i2 : (e : Int) < 11 := by omega
        rw [if_pos (by simp)]
        simp only [Int.toNat_natCast]
        obtain ⟨X, hX⟩ : ∃ X, rr h t e = X := ⟨_, rfl⟩
        rw [hX]
        have HX := Lib.hid hX
        clear hX
        go_enter Try.func13, Try.ntmps13
        go_wp2_with (first | (go_at_call 39; refine (isEggs_all _ _).mono ?_; rw [h1]; rintro e w' ⟨rfl, rfl⟩) | (go_at_call 40; refine (isHands_all _ _).mono ?_; rw [h2]; rintro e w' ⟨rfl, rfl⟩) | (go_at_call 41; refine (isRounds_all _ _).mono ?_; rw [h3]; rintro e w' ⟨rfl, rfl⟩) | (go_at_call 42; refine (newRounds_calls h (by omega) _).mono ?_; rintro r w1 ⟨rfl, HI⟩; have hcell := HI.tab.cell t e (by omega) (by omega); rw [HX.out] at hcell; have HB := Lib.hid HI.below; clear HI))
        go_ret2
        exact ⟨rfl, HB.out⟩
def fewRes (e h f : Int) : Int × Bool := if house e h f then (fewR h.toNat e.toNat f, true) else (0, false)
set_option maxHeartbeats 1000000 in
theorem FewestRounds_calls (e h f : Int) (w : World) : Calls Try.prog 17 #[.int .i64 e, .int .i64 h, .int .i64 f] w fun r w' => r = .returned (.tuple #[.int .i64 (fewRes e h f).1, .bool (fewRes e h f).2]) ∧ Below w.heap.size w w' := by
  unfold fewRes
  cases hc : house e h f with
  | false =>
    go_enter Try.func17, Try.ntmps17
    go_wp2_with (first | (go_at_call 44; refine (house_all _ _ _ _).mono ?_; rw [hc]; rintro e w' ⟨rfl, rfl⟩))
    go_ret2
    exact ⟨rfl, Below.refl _ _⟩
  | true =>
    have hc2 := hc
    unfold house at hc2
    rw [Bool.and_eq_true, Bool.and_eq_true] at hc2
    obtain ⟨e, rfl, he1, he2⟩ := inn_nat hc2.1 (by omega)
    obtain ⟨h, rfl, hh1, hh2⟩ := inn_nat hc2.2.1 (by omega)
    clear hc2
    rw [if_pos rfl]
    simp only [Int.toNat_natCast]
    go_enter Try.func17, Try.ntmps17
    go_wp2_with (first | (go_at_call 44; refine (house_all _ _ _ _).mono ?_; rw [hc]; rintro e w' ⟨rfl, rfl⟩) | (go_at_call 42; refine (newRounds_calls h (by omega) _).mono ?_; rintro r w1 ⟨rfl, HI⟩; have HT := Lib.hid HI.tab; have HB := Lib.hid HI.below; clear HI) | (go_at_call 47; refine (fewest_calls h w.heap.size e f _ (by omega) HT.out).mono ?_; rintro r w2 ⟨rfl, q, rfl⟩))
    go_ret2
    exact ⟨rfl, HB.out.os, HB.out.tape, HB.out.output, HB.out.size, HB.out.block⟩
/-- The fewest hands, of so many from one number on, with which so many rounds cover the floors. -/
def handF (e t : Nat) (f : Int) : Nat → Nat → Int × Bool
  | 0, _ => (0, false)
  | k + 1, h => if rr h t e ≥ f then ((h : Int), true) else handF e t f k (h + 1)
def handRes (e f t : Int) : Int × Bool := if house e 1 f && inn t 0 60 then handF e.toNat t.toNat f 10 1 else (0, false)
set_option maxHeartbeats 1000000 in
theorem HandsFor_calls (e f t : Int) (w : World) : Calls Try.prog 15 #[.int .i64 e, .int .i64 f, .int .i64 t] w fun r w' => r = .returned (.tuple #[.int .i64 (handRes e f t).1, .bool (handRes e f t).2]) ∧ Below w.heap.size w w' := by
  unfold handRes
  cases hc : house e 1 f with
  | false =>
    go_enter Try.func15, Try.ntmps15
    go_wp2_with (first | (go_at_call 44; refine (house_all _ _ _ _).mono ?_; rw [hc]; rintro e w' ⟨rfl, rfl⟩))
    go_ret2
    exact ⟨by simp, Below.refl _ _⟩
  | true =>
    cases h3 : inn t 0 60 with
    | false =>
      go_enter Try.func15, Try.ntmps15
      go_wp2_with (first | (go_at_call 44; refine (house_all _ _ _ _).mono ?_; rw [hc]; rintro e w' ⟨rfl, rfl⟩) | (go_at_call 41; refine (isRounds_all _ _).mono ?_; rw [h3]; rintro e w' ⟨rfl, rfl⟩))
      go_ret2
      exact ⟨by simp, Below.refl _ _⟩
    | true =>
      have hc2 := hc
      unfold house at hc2
      rw [Bool.and_eq_true, Bool.and_eq_true] at hc2
      obtain ⟨e, rfl, he1, he2⟩ := inn_nat hc2.1 (by omega)
      obtain ⟨t, rfl, ht1, ht2⟩ := inn_nat h3 (by omega)
      clear hc2
      have i1 : (t : Int) < 1001 := by omega
      have i2 : (e : Int) < 11 := by omega
      rw [if_pos (by simp)]
      simp only [Int.toNat_natCast]
      obtain ⟨R, hR⟩ : ∃ R, handF e t f 10 1 = R := ⟨_, rfl⟩
      rw [hR]
      have HR := Lib.hid hR
      clear hR
      have HB := Lib.hid (Below.refl w.heap.size w)
      go_enter Try.func15, Try.ntmps15
      go_wp2_with (first | (go_at_call 44; refine (house_all _ _ _ _).mono ?_; rw [hc]; rintro e w' ⟨rfl, rfl⟩) | (go_at_call 41; refine (isRounds_all _ _).mono ?_; rw [h3]; rintro e w' ⟨rfl, rfl⟩))
      go_loopg [8] 11 (fun gg s8 wr => ∃ h : Nat, 1 ≤ h ∧ h ≤ 11 ∧ 11 - h ≤ gg ∧ s8 = .int .i64 h ∧ Hid (Below w.heap.size w wr) ∧ Hid (handF e t f (11 - h) h = R))
      case atStart => exact ⟨1, by omega, by omega, by omega, rfl, HB, HR⟩
      case round =>
        clear HR HB
        obtain ⟨h, hh1, hh2, hg, rfl, HB, HR⟩ := hrel
        by_cases hlt : h ≤ 10
        · have HR2 : Hid ((if rr h t e ≥ f then ((h : Int), true) else handF e t f (11 - (h + 1)) (h + 1)) = R) := Lib.hid (by
            have h0 := HR.out
            rw [show 11 - h = (11 - (h + 1)) + 1 by omega] at h0
            exact h0)
          clear HR
          obtain ⟨X, hX⟩ : ∃ X, rr h t e = X := ⟨_, rfl⟩
          rw [hX] at HR2
          have HX := Lib.hid hX
          clear hX
          by_cases hx : X ≥ f
          · have hx1 : decide (f ≤ X) = true := decide_eq_true hx
            have HR3 : Hid (((h : Int), true) = R) := Lib.hid (by have := HR2.out; rw [if_pos hx] at this; exact this)
            clear HR2
            go_wp2_with (go_at_call 42; refine (newRounds_calls h (by omega) _).mono ?_; rintro r w1 ⟨rfl, HI⟩; have hcell := HI.tab.cell t e (by omega) (by omega); rw [HX.out] at hcell; have HB2 := Lib.hid HI.below; clear HI)
            go_ret2
            exact ⟨by rw [← HR3.out]; rfl, HB.out.trans (HB2.out.mono HB.out.size)⟩
          · have hx1 : decide (f ≤ X) = false := decide_eq_false hx
            have HR3 : Hid (handF e t f (11 - (h + 1)) (h + 1) = R) := Lib.hid (by have := HR2.out; rw [if_neg hx] at this; exact this)
            clear HR2
            go_wp2_with (go_at_call 42; refine (newRounds_calls h (by omega) _).mono ?_; rintro r w1 ⟨rfl, HI⟩; have hcell := HI.tab.cell t e (by omega) (by omega); rw [HX.out] at hcell; have HB2 := Lib.hid HI.below; clear HI)
            go_roundg (11 - (h + 1))
            case measure => omega
            case rel => exact ⟨h + 1, by omega, by omega, by omega, by go_num, Lib.hid (HB.out.trans (HB2.out.mono HB.out.size)), HR3⟩
        · obtain rfl : h = 11 := by omega
          have HR3 : Hid (((0 : Int), false) = R) := Lib.hid HR.out
          clear HR
          go_wp2_with fail
          go_ret2
          exact ⟨by rw [← HR3.out]; rfl, HB.out⟩
end Go.Proofs.Ytnolocmcjcjjcaa.Hand
