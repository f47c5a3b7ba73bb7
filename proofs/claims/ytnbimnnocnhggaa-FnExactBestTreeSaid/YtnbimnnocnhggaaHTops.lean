/- The program's ReachOf, FewestEggs, LeastWorst, FewestTests and BestFloor answer what the table of reaches says; no conditions. -/
import Derived.Test.YtnbimnnocnhggaaHFew
namespace Go.Proofs.Ytnbimnnocnhggaa.Hand
open Go Go.Proofs Go.RowKit
set_option maxRecDepth 100000

theorem below_draws {B : Nat} {a w : World} (h : Below B a w) (n : Nat) : Below B a (w.drewN n) := h.trans ⟨rfl, rfl, rfl, Nat.le_refl _, fun _ _ => rfl⟩

theorem within_yes (a b c : Int) (w : World) (h : b ≤ a ∧ a ≤ c) : Calls Try.prog 69 #[.int .i64 a, .int .i64 b, .int .i64 c] w fun r w' => r = .returned (.bool true) ∧ w = w' := by
  obtain ⟨h1, h2⟩ := h
  go_enter Try.func69, Try.ntmps69
  go_wp2
  go_ret
  exact ⟨ret_bool (by simp), rfl⟩
theorem within_no (a b c : Int) (w : World) (h : ¬ (b ≤ a ∧ a ≤ c)) : Calls Try.prog 69 #[.int .i64 a, .int .i64 b, .int .i64 c] w fun r w' => r = .returned (.bool false) ∧ w = w' := by
  by_cases h1 : b ≤ a
  · have h2 : c < a := by omega
    clear h
    go_enter Try.func69, Try.ntmps69
    go_wp2
    go_ret
    exact ⟨ret_bool (by simp; omega), rfl⟩
  · clear h
    have h2 : decide (b ≤ a) = false := by simpa using h1
    go_enter Try.func69, Try.ntmps69
    go_wp2
    go_ret
    exact ⟨rfl, rfl⟩

theorem isEggs_yes (a : Int) (w : World) (h : 1 ≤ a ∧ a ≤ 10) : Calls Try.prog 48 #[.int .i64 a] w fun r w' => r = .returned (.bool true) ∧ w = w' := by
  go_enter Try.func48, Try.ntmps48
  go_wp2_with (go_at_call 69; refine (within_yes _ _ _ _ h).mono ?_; rintro e w' ⟨rfl, rfl⟩)
  go_ret
  exact ⟨rfl, rfl⟩
theorem isEggs_no (a : Int) (w : World) (h : ¬ (1 ≤ a ∧ a ≤ 10)) : Calls Try.prog 48 #[.int .i64 a] w fun r w' => r = .returned (.bool false) ∧ w = w' := by
  have H := Lib.hid h
  clear h
  go_enter Try.func48, Try.ntmps48
  go_wp2_with (go_at_call 69; refine (within_no _ _ _ _ H.out).mono ?_; rintro e w' ⟨rfl, rfl⟩)
  go_ret
  exact ⟨rfl, rfl⟩
theorem isTests_yes (a : Int) (w : World) (h : 0 ≤ a ∧ a ≤ 1000) : Calls Try.prog 49 #[.int .i64 a] w fun r w' => r = .returned (.bool true) ∧ w = w' := by
  go_enter Try.func49, Try.ntmps49
  go_wp2_with (go_at_call 69; refine (within_yes _ _ _ _ h).mono ?_; rintro e w' ⟨rfl, rfl⟩)
  go_ret
  exact ⟨rfl, rfl⟩
theorem isTests_no (a : Int) (w : World) (h : ¬ (0 ≤ a ∧ a ≤ 1000)) : Calls Try.prog 49 #[.int .i64 a] w fun r w' => r = .returned (.bool false) ∧ w = w' := by
  have H := Lib.hid h
  clear h
  go_enter Try.func49, Try.ntmps49
  go_wp2_with (go_at_call 69; refine (within_no _ _ _ _ H.out).mono ?_; rintro e w' ⟨rfl, rfl⟩)
  go_ret
  exact ⟨rfl, rfl⟩
theorem isFloors_yes (a : Int) (w : World) (h : 0 ≤ a ∧ a ≤ 1000) : Calls Try.prog 52 #[.int .i64 a] w fun r w' => r = .returned (.bool true) ∧ w = w' := by
  go_enter Try.func52, Try.ntmps52
  go_wp2_with (go_at_call 69; refine (within_yes _ _ _ _ h).mono ?_; rintro e w' ⟨rfl, rfl⟩)
  go_ret
  exact ⟨rfl, rfl⟩
theorem isFloors_no (a : Int) (w : World) (h : ¬ (0 ≤ a ∧ a ≤ 1000)) : Calls Try.prog 52 #[.int .i64 a] w fun r w' => r = .returned (.bool false) ∧ w = w' := by
  have H := Lib.hid h
  clear h
  go_enter Try.func52, Try.ntmps52
  go_wp2_with (go_at_call 69; refine (within_no _ _ _ _ H.out).mono ?_; rintro e w' ⟨rfl, rfl⟩)
  go_ret
  exact ⟨rfl, rfl⟩
theorem isMarked_yes (a : Int) (w : World) (h : 0 ≤ a ∧ a ≤ 100) : Calls Try.prog 55 #[.int .i64 a] w fun r w' => r = .returned (.bool true) ∧ w = w' := by
  go_enter Try.func55, Try.ntmps55
  go_wp2_with (go_at_call 69; refine (within_yes _ _ _ _ h).mono ?_; rintro e w' ⟨rfl, rfl⟩)
  go_ret
  exact ⟨rfl, rfl⟩
theorem isMarked_no (a : Int) (w : World) (h : ¬ (0 ≤ a ∧ a ≤ 100)) : Calls Try.prog 55 #[.int .i64 a] w fun r w' => r = .returned (.bool false) ∧ w = w' := by
  have H := Lib.hid h
  clear h
  go_enter Try.func55, Try.ntmps55
  go_wp2_with (go_at_call 69; refine (within_no _ _ _ _ H.out).mono ?_; rintro e w' ⟨rfl, rfl⟩)
  go_ret
  exact ⟨rfl, rfl⟩
def House (e n : Int) : Prop := (1 ≤ e ∧ e ≤ 10) ∧ (0 ≤ n ∧ n ≤ 1000)
instance (e n : Int) : Decidable (House e n) := by unfold House; infer_instance
theorem isHouse_yes (e n : Int) (w : World) (h : House e n) : Calls Try.prog 58 #[.int .i64 e, .int .i64 n] w fun r w' => r = .returned (.bool true) ∧ w = w' := by
  have H := Lib.hid h
  clear h
  go_enter Try.func58, Try.ntmps58
  go_wp2_with (first | (go_at_call 48; refine (isEggs_yes _ _ H.out.1).mono ?_; rintro e w' ⟨rfl, rfl⟩) | (go_at_call 52; refine (isFloors_yes _ _ H.out.2).mono ?_; rintro e w' ⟨rfl, rfl⟩))
  go_ret
  exact ⟨rfl, rfl⟩
theorem isHouse_no (e n : Int) (w : World) (h : ¬ House e n) : Calls Try.prog 58 #[.int .i64 e, .int .i64 n] w fun r w' => r = .returned (.bool false) ∧ w = w' := by
  by_cases h1 : 1 ≤ e ∧ e ≤ 10
  · have h2 : ¬ (0 ≤ n ∧ n ≤ 1000) := fun h3 => h ⟨h1, h3⟩
    have H1 := Lib.hid h1
    have H2 := Lib.hid h2
    clear h h1 h2
    go_enter Try.func58, Try.ntmps58
    go_wp2_with (first | (go_at_call 48; refine (isEggs_yes _ _ H1.out).mono ?_; rintro e w' ⟨rfl, rfl⟩) | (go_at_call 52; refine (isFloors_no _ _ H2.out).mono ?_; rintro e w' ⟨rfl, rfl⟩))
    go_ret
    exact ⟨rfl, rfl⟩
  · have H1 := Lib.hid h1
    clear h h1
    go_enter Try.func58, Try.ntmps58
    go_wp2_with (first | (go_at_call 48; refine (isEggs_no _ _ H1.out).mono ?_; rintro e w' ⟨rfl, rfl⟩))
    go_ret
    exact ⟨rfl, rfl⟩

/-- The fewest tests for e eggs and n floors. -/
def fewFrom (e : Nat) (n : Int) : Nat → Nat → Nat
  | 0, t => t
  | d + 1, t => if n ≤ reach t e then t else fewFrom e n d (t + 1)
def fewT (e : Nat) (n : Int) : Nat := fewFrom e n 1000 0
theorem fewFrom_spec (e : Nat) (n : Int) (d : Nat) : ∀ t, (∀ s, s < t → reach s e < n) → (∃ u, u ≤ t + d ∧ n ≤ reach u e) → fewFrom e n d t ≤ t + d ∧ IsFew e n (fewFrom e n d t) := by
  induction d with
  | zero =>
    intro t h1 ⟨u, hu, h2⟩
    refine ⟨Nat.le_refl _, ?_, h1⟩
    have := reach_mono e hu
    simp only [fewFrom, Nat.add_zero] at *
    omega
  | succ d ih =>
    intro t h1 ⟨u, hu, h2⟩
    unfold fewFrom
    by_cases h : n ≤ reach t e
    · rw [if_pos h]; exact ⟨by omega, h, h1⟩
    · rw [if_neg h]
      have := ih (t + 1) (fun s hs => by
        by_cases e' : s = t
        · subst e'; omega
        · exact h1 s (by omega)) ⟨u, by omega, h2⟩
      exact ⟨by omega, this.2⟩
theorem fewT_spec (e : Nat) (he : 1 ≤ e) (n : Int) (hn : n ≤ 1000) : fewT e n ≤ 1000 ∧ IsFew e n (fewT e n) := by
  have h := fewFrom_spec e n 1000 0 (fun s hs => by omega) ⟨1000, by omega, by have := reach_ge e he 1000 (by omega); omega⟩
  exact ⟨by unfold fewT; omega, h.2⟩
theorem fewT_eq {e : Nat} (he : 1 ≤ e) {n : Int} (hn : n ≤ 1000) {t : Nat} (h : IsFew e n t) : fewT e n = t := (fewT_spec e he n hn).2.unique h

def fewRes (e n : Int) : Int × Bool := if House e n then ((fewT e.toNat n : Int), true) else (0, false)
set_option maxHeartbeats 400000 in
theorem FewestTests_calls (e n : Int) (w : World) :
    Calls Try.prog 22 #[.int .i64 e, .int .i64 n] w fun r w' => r = .returned (.tuple #[.int .i64 (fewRes e n).1, .bool (fewRes e n).2]) ∧ Below w.heap.size w w' := by
  by_cases h : House e n
  · obtain ⟨e, rfl⟩ := Int.eq_ofNat_of_zero_le (show 0 ≤ e by have := h.1; omega)
    have hf : fewRes (e : Int) n = ((fewT e n : Int), true) := by unfold fewRes; rw [if_pos h, Int.toNat_natCast]
    have HF := Lib.hid hf
    have HH := Lib.hid h
    have HS := Lib.hid (fewT_spec e (by have := h.1; omega) n h.2.2)
    have he : e ≤ 10 := by have := h.1; omega
    clear hf h
    go_enter Try.func22, Try.ntmps22
    go_wp2_with (first | (go_at_call 58; refine (isHouse_yes _ _ _ HH.out).mono ?_; rintro e w' ⟨rfl, rfl⟩) | (go_at_call 50; refine (newReaches_calls _).mono ?_; rintro e w' ⟨rfl, hT, hs, hb⟩; have HT := Lib.hid hT; have HB := Lib.hid hb; clear hT hb) | (go_at_call 59; refine (fewest_calls _ e n _ _ HT.out he HS.out.1 HS.out.2).mono ?_; rintro e w' ⟨rfl, rfl⟩))
    go_ret2
    exact ⟨by rw [HF.out]; rfl, HB.out⟩
  · have hf : fewRes e n = (0, false) := by unfold fewRes; rw [if_neg h]
    have HF := Lib.hid hf
    have HH := Lib.hid h
    clear hf h
    go_enter Try.func22, Try.ntmps22
    go_wp2_with (first | (go_at_call 58; refine (isHouse_no _ _ _ HH.out).mono ?_; rintro e w' ⟨rfl, rfl⟩))
    go_ret2
    exact ⟨by rw [HF.out]; rfl, Below.refl _ _⟩

def reachRes (e t : Int) : Int × Bool := if (1 ≤ e ∧ e ≤ 10) ∧ (0 ≤ t ∧ t ≤ 1000) ∧ reach t.toNat e.toNat ≤ 1000000000 then (reach t.toNat e.toNat, true) else (0, false)
set_option maxHeartbeats 400000 in
theorem ReachOf_calls (e t : Int) (w : World) :
    Calls Try.prog 16 #[.int .i64 e, .int .i64 t] w fun r w' => r = .returned (.tuple #[.int .i64 (reachRes e t).1, .bool (reachRes e t).2]) ∧ Below w.heap.size w w' := by
  by_cases h1 : 1 ≤ e ∧ e ≤ 10
  · by_cases h2 : 0 ≤ t ∧ t ≤ 1000
    · obtain ⟨e, rfl⟩ := Int.eq_ofNat_of_zero_le (show 0 ≤ e by omega)
      obtain ⟨t, rfl⟩ := Int.eq_ofNat_of_zero_le (show 0 ≤ t by omega)
      obtain ⟨b1, b2⟩ := reach_bd t e
      have HR : Hid (reachRes (e : Int) (t : Int) = if reach t e ≤ 1000000000 then (reach t e, true) else (0, false)) := Lib.hid (by
        unfold reachRes
        simp only [Int.toNat_natCast]
        by_cases h3 : reach t e ≤ 1000000000
        · rw [if_pos ⟨h1, h2, h3⟩, if_pos h3]
        · rw [if_neg (fun h => h3 h.2.2), if_neg h3])
      have H1 := Lib.hid h1
      have H2 := Lib.hid h2
      have he : e ≤ 10 := by omega
      have ht : t ≤ 1000 := by omega
      clear h1 h2
      by_cases h3 : reach t e ≤ 1000000000
      · have HF : Hid (reachRes (e : Int) (t : Int) = (reach t e, true)) := Lib.hid (by rw [HR.out, if_pos h3])
        clear HR
        have HC : Hid (∀ w : World, ∀ b, Tab w b → w.cell? ⟨b, t * 11 + e, none⟩ = some (.int .i64 (reach t e))) := Lib.hid fun w b h => h.cell t e ht he
        generalize reach t e = R at *
        go_enter Try.func16, Try.ntmps16
        go_wp2_with (first | (go_at_call 48; refine (isEggs_yes _ _ H1.out).mono ?_; rintro r w' ⟨rfl, rfl⟩) | (go_at_call 49; refine (isTests_yes _ _ H2.out).mono ?_; rintro r w' ⟨rfl, rfl⟩) | (go_at_call 50; refine (newReaches_calls _).mono ?_; rintro r w' ⟨rfl, hT, hs, hb⟩; have c1 := HC.out _ _ hT; have HB := Lib.hid hb; clear hT hb))
        go_ret2
        exact ⟨by rw [HF.out]; rfl, HB.out⟩
      · have HF : Hid (reachRes (e : Int) (t : Int) = (0, false)) := Lib.hid (by rw [HR.out, if_neg h3])
        clear HR
        have HC : Hid (∀ w : World, ∀ b, Tab w b → w.cell? ⟨b, t * 11 + e, none⟩ = some (.int .i64 (reach t e))) := Lib.hid fun w b h => h.cell t e ht he
        generalize reach t e = R at *
        go_enter Try.func16, Try.ntmps16
        go_wp2_with (first | (go_at_call 48; refine (isEggs_yes _ _ H1.out).mono ?_; rintro r w' ⟨rfl, rfl⟩) | (go_at_call 49; refine (isTests_yes _ _ H2.out).mono ?_; rintro r w' ⟨rfl, rfl⟩) | (go_at_call 50; refine (newReaches_calls _).mono ?_; rintro r w' ⟨rfl, hT, hs, hb⟩; have c1 := HC.out _ _ hT; have HB := Lib.hid hb; clear hT hb))
        go_ret2
        exact ⟨by rw [HF.out]; rfl, HB.out⟩
    · have HF : Hid (reachRes e t = (0, false)) := Lib.hid (by unfold reachRes; rw [if_neg (fun h => h2 h.2.1)])
      have H1 := Lib.hid h1
      have H2 := Lib.hid h2
      clear h1 h2
      go_enter Try.func16, Try.ntmps16
      go_wp2_with (first | (go_at_call 48; refine (isEggs_yes _ _ H1.out).mono ?_; rintro r w' ⟨rfl, rfl⟩) | (go_at_call 49; refine (isTests_no _ _ H2.out).mono ?_; rintro r w' ⟨rfl, rfl⟩))
      go_ret2
      exact ⟨by rw [HF.out]; rfl, Below.refl _ _⟩
  · have HF : Hid (reachRes e t = (0, false)) := Lib.hid (by unfold reachRes; rw [if_neg (fun h => h1 h.1)])
    have H1 := Lib.hid h1
    clear h1
    go_enter Try.func16, Try.ntmps16
    go_wp2_with (first | (go_at_call 48; refine (isEggs_no _ _ H1.out).mono ?_; rintro r w' ⟨rfl, rfl⟩))
    go_ret2
    exact ⟨by rw [HF.out]; rfl, Below.refl _ _⟩

/-- The least number of eggs from m on, up to 10, for n floors and t tests. -/
def eggsFrom (n : Int) (t : Nat) : Nat → Nat → Int × Bool
  | 0, _ => (0, false)
  | d + 1, m => if n ≤ reach t m then ((m : Int), true) else eggsFrom n t d (m + 1)
def eggsRes (n t : Int) : Int × Bool := if (0 ≤ n ∧ n ≤ 1000) ∧ (0 ≤ t ∧ t ≤ 1000) then eggsFrom n t.toNat 10 1 else (0, false)
set_option maxHeartbeats 400000 in
theorem FewestEggs_calls (n t : Int) (w : World) :
    Calls Try.prog 18 #[.int .i64 n, .int .i64 t] w fun r w' => r = .returned (.tuple #[.int .i64 (eggsRes n t).1, .bool (eggsRes n t).2]) ∧ Below w.heap.size w w' := by
  by_cases h1 : 0 ≤ n ∧ n ≤ 1000
  · by_cases h2 : 0 ≤ t ∧ t ≤ 1000
    · obtain ⟨t, rfl⟩ := Int.eq_ofNat_of_zero_le (show 0 ≤ t by omega)
      have HF : Hid (eggsRes n (t : Int) = eggsFrom n t 10 1) := Lib.hid (by unfold eggsRes; rw [if_pos ⟨h1, h2⟩, Int.toNat_natCast])
      have H1 := Lib.hid h1
      have H2 := Lib.hid h2
      have ht : t ≤ 1000 := by omega
      clear h1 h2
      go_enter Try.func18, Try.ntmps18
      go_wp2_with (first | (go_at_call 52; refine (isFloors_yes _ _ H1.out).mono ?_; rintro r w' ⟨rfl, rfl⟩) | (go_at_call 49; refine (isTests_yes _ _ H2.out).mono ?_; rintro r w' ⟨rfl, rfl⟩) | (go_at_call 50; refine (newReaches_calls _).mono ?_; rintro r w1 ⟨rfl, hT, hs, hb⟩; have HT := Lib.hid hT; have HB := Lib.hid hb; clear hT hb))
      go_loop [7] (fun x => ∃ m : Nat, 1 ≤ m ∧ m ≤ 11 ∧ x = .int .i64 m ∧ Hid (eggsFrom n t 10 1 = eggsFrom n t (11 - m) m)) (fun x => 11 - (intOf x).toNat)
      case atStart => exact ⟨1, by omega, by omega, rfl, Lib.hid rfl⟩
      case round =>
        obtain ⟨m, h1, h2, rfl, HE⟩ := hrel
        by_cases hm : m ≤ 10
        · have c1 := HT.out.cell t m ht hm
          obtain ⟨b1, b2⟩ := reach_bd t m
          have HE2 : Hid (eggsFrom n t (11 - m) m = if n ≤ reach t m then ((m : Int), true) else eggsFrom n t (11 - (m + 1)) (m + 1)) := Lib.hid (by
            rw [show 11 - m = (11 - (m + 1)) + 1 by omega]; rfl)
          generalize reach t m = R at *
          by_cases hR : n ≤ R
          · have HE3 : Hid (eggsRes n (t : Int) = ((m : Int), true)) := Lib.hid (by rw [HF.out, HE.out, HE2.out, if_pos hR])
            clear HE HE2 HF
            go_wp2_with fail
            go_ret2
            exact ⟨by rw [HE3.out]; rfl, HB.out⟩
          · have HE3 : Hid (eggsFrom n t 10 1 = eggsFrom n t (11 - (m + 1)) (m + 1)) := Lib.hid (by rw [HE.out, HE2.out, if_neg hR])
            clear HE HE2
            go_wp2_with fail
            go_round
            case rel => exact ⟨m + 1, by omega, by omega, by go_num, HE3⟩
            case measure => simp [intOf]; omega
        · obtain rfl : m = 11 := by omega
          have HE3 : Hid (eggsRes n (t : Int) = (0, false)) := Lib.hid (by rw [HF.out, HE.out]; rfl)
          clear HE HF
          go_wp2_with fail
          go_ret2
          exact ⟨by rw [HE3.out]; rfl, HB.out⟩
    · have HF : Hid (eggsRes n t = (0, false)) := Lib.hid (by unfold eggsRes; rw [if_neg (fun h => h2 h.2)])
      have H1 := Lib.hid h1
      have H2 := Lib.hid h2
      clear h1 h2
      go_enter Try.func18, Try.ntmps18
      go_wp2_with (first | (go_at_call 52; refine (isFloors_yes _ _ H1.out).mono ?_; rintro r w' ⟨rfl, rfl⟩) | (go_at_call 49; refine (isTests_no _ _ H2.out).mono ?_; rintro r w' ⟨rfl, rfl⟩))
      go_ret2
      exact ⟨by rw [HF.out]; rfl, Below.refl _ _⟩
  · have HF : Hid (eggsRes n t = (0, false)) := Lib.hid (by unfold eggsRes; rw [if_neg (fun h => h1 h.1)])
    have H1 := Lib.hid h1
    clear h1
    go_enter Try.func18, Try.ntmps18
    go_wp2_with (first | (go_at_call 52; refine (isFloors_no _ _ H1.out).mono ?_; rintro r w' ⟨rfl, rfl⟩))
    go_ret2
    exact ⟨by rw [HF.out]; rfl, Below.refl _ _⟩

theorem leastWorst_calls (n : Int) (w : World) (h : 0 ≤ n ∧ n ≤ 1000) :
    Calls Try.prog 56 #[.int .i64 n] w fun r w' => r = .returned (.int .i64 (fewT 2 n)) ∧ Below w.heap.size w w' := by
  have HS := Lib.hid (fewT_spec 2 (by omega) n h.2)
  clear h
  go_enter Try.func56, Try.ntmps56
  go_wp2_with (first | (go_at_call 50; refine (newReaches_calls _).mono ?_; rintro r w' ⟨rfl, hT, hs, hb⟩; have HT := Lib.hid hT; have HB := Lib.hid hb; clear hT hb) | (go_at_call 59; refine (fewest_calls _ 2 n _ _ HT.out (by omega) HS.out.1 HS.out.2).mono ?_; rintro r w' ⟨rfl, rfl⟩))
  go_ret
  exact ⟨rfl, HB.out⟩
def worstRes (n : Int) : Int × Bool := if 0 ≤ n ∧ n ≤ 100 then ((fewT 2 n : Int), true) else (0, false)
theorem LeastWorst_calls (n : Int) (w : World) :
    Calls Try.prog 20 #[.int .i64 n] w fun r w' => r = .returned (.tuple #[.int .i64 (worstRes n).1, .bool (worstRes n).2]) ∧ Below w.heap.size w w' := by
  by_cases h : 0 ≤ n ∧ n ≤ 100
  · have HF : Hid (worstRes n = ((fewT 2 n : Int), true)) := Lib.hid (by unfold worstRes; rw [if_pos h])
    have H := Lib.hid h
    clear h
    go_enter Try.func20, Try.ntmps20
    go_wp2_with (first | (go_at_call 55; refine (isMarked_yes _ _ H.out).mono ?_; rintro r w' ⟨rfl, rfl⟩) | (go_at_call 56; refine (leastWorst_calls _ _ ⟨H.out.1, by have := H.out.2; omega⟩).mono ?_; rintro r w' ⟨rfl, hb⟩; have HB := Lib.hid hb; clear hb))
    go_ret2
    exact ⟨by rw [HF.out]; rfl, HB.out⟩
  · have HF : Hid (worstRes n = (0, false)) := Lib.hid (by unfold worstRes; rw [if_neg h])
    have H := Lib.hid h
    clear h
    go_enter Try.func20, Try.ntmps20
    go_wp2_with (first | (go_at_call 55; refine (isMarked_no _ _ H.out).mono ?_; rintro r w' ⟨rfl, rfl⟩))
    go_ret2
    exact ⟨by rw [HF.out]; rfl, Below.refl _ _⟩

def bestRes (e n : Int) : Int × Bool := if House e n ∧ 1 ≤ n then (max 1 (n - reach (fewT e.toNat n - 1) e.toNat), true) else (0, false)
set_option maxHeartbeats 400000 in
theorem BestFloor_calls (e n : Int) (w : World) :
    Calls Try.prog 24 #[.int .i64 e, .int .i64 n] w fun r w' => r = .returned (.tuple #[.int .i64 (bestRes e n).1, .bool (bestRes e n).2]) ∧ Below w.heap.size w w' := by
  by_cases h : House e n
  · by_cases h0 : 1 ≤ n
    · obtain ⟨e, rfl⟩ := Int.eq_ofNat_of_zero_le (show 0 ≤ e by have := h.1; omega)
      have HF : Hid (bestRes (e : Int) n = (max 1 (n - reach (fewT e n - 1) e), true)) := Lib.hid (by unfold bestRes; rw [if_pos ⟨h, h0⟩, Int.toNat_natCast])
      have HH := Lib.hid h
      have HS := Lib.hid (fewT_spec e (by have := h.1; omega) n h.2.2)
      have HP := Lib.hid (HS.out.2.pos h0)
      have he : e ≤ 10 := by have := h.1; omega
      have he1 : 1 ≤ e := by have := h.1; omega
      have hn : n ≤ 1000 := h.2.2
      have h0' : (n == 0) = false := by simp; omega
      clear h
      go_enter Try.func24, Try.ntmps24
      go_wp2_with (first | (go_at_call 58; refine (isHouse_yes _ _ _ HH.out).mono ?_; rintro r w' ⟨rfl, rfl⟩) | (go_at_call 50; refine (newReaches_calls _).mono ?_; rintro r w1 ⟨rfl, hT, hs, hb⟩; have HT := Lib.hid hT; have HB := Lib.hid hb; clear hT hb) | (go_at_call 61; refine (best_calls _ e n _ _ HT.out he1 he HP.out HS.out.1 h0 hn HS.out.2).mono ?_; rintro r w2 ⟨rfl, m, rfl⟩))
      go_ret2
      exact ⟨by rw [HF.out]; rfl, below_draws HB.out _⟩
    · obtain rfl : n = 0 := by have := h.2; omega
      have HF : Hid (bestRes e 0 = (0, false)) := Lib.hid (by unfold bestRes; rw [if_neg (fun h => by omega)])
      have HH := Lib.hid h
      clear h h0
      go_enter Try.func24, Try.ntmps24
      go_wp2_with (first | (go_at_call 58; refine (isHouse_yes _ _ _ HH.out).mono ?_; rintro r w' ⟨rfl, rfl⟩))
      go_ret2
      exact ⟨by rw [HF.out]; rfl, Below.refl _ _⟩
  · have HF : Hid (bestRes e n = (0, false)) := Lib.hid (by unfold bestRes; rw [if_neg (fun h' => h h'.1)])
    have HH := Lib.hid h
    clear h
    go_enter Try.func24, Try.ntmps24
    go_wp2_with (first | (go_at_call 58; refine (isHouse_no _ _ _ HH.out).mono ?_; rintro r w' ⟨rfl, rfl⟩))
    go_ret2
    exact ⟨by rw [HF.out]; rfl, Below.refl _ _⟩
end Go.Proofs.Ytnbimnnocnhggaa.Hand
