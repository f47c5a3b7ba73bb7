/- The methods of the table of reaches answer what the table says: the fewest tests, whether a floor may be the first one, and the best floor; conditions: the table is there, eggs in 1..10, floors in 0..1000. -/
import Derived.Test.YtnbimnnocnhggaaHReach
namespace Go.Proofs.Ytnbimnnocnhggaa.Hand
open Go Go.Proofs Go.RowKit
set_option maxRecDepth 100000

theorem ret_int {k : IntKind} {a b : Int} (h : a = b) : Ending.returned (.int k a) = .returned (.int k b) := by rw [h]
theorem ret_bool {a b : Bool} (h : a = b) : Ending.returned (.bool a) = .returned (.bool b) := by rw [h]

theorem reach_step (t : Nat) : ∀ e, reach t e ≤ reach (t + 1) e := by
  induction t with
  | zero => intro e; rw [reach_zero]; exact (reach_bd 1 e).1
  | succ t ih =>
    intro e
    cases e with
    | zero => rw [reach_none, reach_none]; omega
    | succ e => have h1 := ih e; have h2 := ih (e + 1); rw [reach, reach]; omega
theorem reach_mono (e : Nat) {s t : Nat} (h : s ≤ t) : reach s e ≤ reach t e := by
  induction t with
  | zero => obtain rfl : s = 0 := by omega
            omega
  | succ t ih =>
    by_cases h' : s ≤ t
    · have := ih h'; have := reach_step t e; omega
    · obtain rfl : s = t + 1 := by omega
      omega
theorem reach_ge (e : Nat) (he : 1 ≤ e) : ∀ t : Nat, t ≤ 1000 → (t : Int) ≤ reach t e := by
  obtain ⟨e, rfl⟩ : ∃ k, e = k + 1 := ⟨e - 1, by omega⟩
  intro t
  induction t with
  | zero => intro _; simp [reach_zero]
  | succ t ih => intro h; have := ih (by omega); have := (reach_bd t e).1; rw [reach]; omega

/-- t tests are the fewest for e eggs and n floors. -/
def IsFew (e : Nat) (n : Int) (t : Nat) : Prop := n ≤ reach t e ∧ ∀ s, s < t → reach s e < n
theorem few_upto (e : Nat) (n : Int) (m : Nat) : (∃ t, t ≤ m ∧ IsFew e n t) ∨ ∀ s, s ≤ m → reach s e < n := by
  induction m with
  | zero =>
    by_cases h : n ≤ reach 0 e
    · exact .inl ⟨0, by omega, h, fun s hs => by omega⟩
    · exact .inr fun s hs => by obtain rfl : s = 0 := by omega
                                omega
  | succ m ih =>
    rcases ih with ⟨t, h1, h2⟩ | ih
    · exact .inl ⟨t, by omega, h2⟩
    · by_cases h : n ≤ reach (m + 1) e
      · exact .inl ⟨m + 1, by omega, h, fun s hs => ih s (by omega)⟩
      · exact .inr fun s hs => by
          by_cases e' : s = m + 1
          · subst e'; omega
          · exact ih s (by omega)
theorem few_exists (e : Nat) (he : 1 ≤ e) (n : Int) (hn : n ≤ 1000) : ∃ t, t ≤ 1000 ∧ IsFew e n t := by
  rcases few_upto e n 1000 with h | h
  · exact h
  · have := reach_ge e he 1000 (by omega); have := h 1000 (by omega); omega
theorem IsFew.unique {e : Nat} {n : Int} {s t : Nat} (h : IsFew e n s) (k : IsFew e n t) : s = t := by
  rcases Nat.lt_trichotomy s t with a | a | a
  · have := k.2 s a; have := h.1; omega
  · exact a
  · have := h.2 t a; have := k.1; omega
theorem IsFew.pos {e : Nat} {n : Int} {t : Nat} (h : IsFew e n t) (hn : 1 ≤ n) : 1 ≤ t := by
  rcases Nat.eq_zero_or_pos t with a | a
  · subst a; have := h.1; rw [reach_zero] at this; omega
  · exact a

set_option maxHeartbeats 400000 in
theorem fewest_calls (b : Nat) (e : Nat) (n : Int) (t : Nat) (w : World) (hT : Tab w b) (he : e ≤ 10) (ht : t ≤ 1000) (hF : IsFew e n t) :
    Calls Try.prog 59 #[.pointer (some ⟨b, 0, none⟩), .int .i64 e, .int .i64 n] w fun r w' => r = .returned (.int .i64 t) ∧ w = w' := by
  have HT := Lib.hid hT
  have HF := Lib.hid hF
  clear hT hF
  go_enter Try.func59, Try.ntmps59
  go_wp2_with fail
  go_loop [7, 8] (fun x y => ∃ lo hi : Nat, lo ≤ t ∧ t ≤ hi ∧ hi ≤ 1000 ∧ x = .int .i64 lo ∧ y = .int .i64 hi) (fun x y => (intOf y).toNat - (intOf x).toNat)
  case atStart => exact ⟨0, 1000, by omega, ht, by omega, rfl, rfl⟩
  case round =>
    obtain ⟨lo, hi, h1, h2, h3, rfl, rfl⟩ := hrel
    by_cases hlt : lo < hi
    · have hc := HT.out.cell ((lo + hi) / 2) e (by omega) he
      obtain ⟨b1, b2⟩ := reach_bd ((lo + hi) / 2) e
      have HR : Hid (∀ s, s ≤ (lo + hi) / 2 → reach s e ≤ reach ((lo + hi) / 2) e) := Lib.hid fun s hs => reach_mono e hs
      have HR2 : Hid (∀ s, (lo + hi) / 2 ≤ s → reach ((lo + hi) / 2) e ≤ reach s e) := Lib.hid fun s hs => reach_mono e hs
      generalize reach ((lo + hi) / 2) e = R at *
      by_cases hR : n ≤ R
      · have hge : t ≤ (lo + hi) / 2 := by
          rcases Nat.lt_or_ge ((lo + hi) / 2) t with a | a
          · have := HF.out.2 _ a; have := HR2.out ((lo + hi) / 2) (Nat.le_refl _); have := HR.out ((lo + hi) / 2) (Nat.le_refl _); omega
          · exact a
        go_wp2_with fail
        go_round
        case rel => exact ⟨lo, (lo + hi) / 2, h1, hge, by omega, rfl, by go_num⟩
        case measure => simp [intOf]; omega
      · have hge : (lo + hi) / 2 + 1 ≤ t := by
          rcases Nat.lt_or_ge ((lo + hi) / 2) t with a | a
          · exact a
          · have := HF.out.1; have := HR.out t a; omega
        go_wp2_with fail
        go_round
        case rel => exact ⟨(lo + hi) / 2 + 1, hi, hge, h2, h3, by go_num, rfl⟩
        case measure => simp [intOf]; omega
    · obtain rfl : lo = hi := by omega
      obtain rfl : t = lo := by omega
      go_wp2_with fail
      go_ret
      exact ⟨rfl, rfl⟩

theorem fewest_same (b : Nat) (e : Nat) (n : Int) (t : Nat) (w : World) (hT : Tab w b) (he : e ≤ 10) (ht : t ≤ 1000) (hF : IsFew e n t) :
    Calls Try.prog 59 #[.pointer (some ⟨b, 0, none⟩), .int .i64 e, .int .i64 n] w fun r w' => r = .returned (.int .i64 t) ∧ w' = w :=
  (fewest_calls b e n t w hT he ht hF).mono fun _ _ h => ⟨h.1, h.2.symm⟩
theorem Tab.drewN {w : World} {b : Nat} (h : Tab w b) (n : Nat) : Tab (w.drewN n) b := ⟨fun t e h1 h2 => h.cell t e h1 h2⟩

set_option maxHeartbeats 400000 in
theorem isFirst_calls (b : Nat) (t e : Nat) (n f : Int) (w : World) (hT : Tab w b) (he1 : 1 ≤ e) (he : e ≤ 10) (ht1 : 1 ≤ t) (ht : t ≤ 1000) (hn0 : 0 ≤ n) (hn : n ≤ 1000) (hf0 : 1 ≤ f) (hf : f ≤ n) (r : Bool)
    (hr : r = decide (f - 1 ≤ reach (t - 1) (e - 1) ∧ n - f ≤ reach (t - 1) e)) :
    Calls Try.prog 63 #[.pointer (some ⟨b, 0, none⟩), .int .i64 t, .int .i64 e, .int .i64 n, .int .i64 f] w fun x w' => x = .returned (.bool r) ∧ w = w' := by
  have c1 := hT.cell (t - 1) (e - 1) (by omega) (by omega)
  have c2 := hT.cell (t - 1) e (by omega) he
  have HR := Lib.hid hr
  clear hT hr
  obtain ⟨b1, b2⟩ := reach_bd (t - 1) (e - 1)
  obtain ⟨b3, b4⟩ := reach_bd (t - 1) e
  generalize reach (t - 1) (e - 1) = X at *
  generalize reach (t - 1) e = Y at *
  by_cases h1 : f - 1 ≤ X
  · go_enter Try.func63, Try.ntmps63
    go_wp2_with fail
    go_ret
    refine ⟨?_, rfl⟩
    exact ret_bool (by rw [HR.out]; exact decide_eq_decide.2 (by omega))
  · have h1' : decide (f - 1 ≤ X) = false := by simpa using h1
    go_enter Try.func63, Try.ntmps63
    go_wp2_with fail
    go_ret
    refine ⟨?_, rfl⟩
    exact ret_bool (by rw [HR.out, decide_eq_false (by omega)])

set_option maxHeartbeats 400000 in
theorem best_calls (b : Nat) (e : Nat) (n : Int) (t : Nat) (w : World) (hT : Tab w b) (he1 : 1 ≤ e) (he : e ≤ 10) (ht1 : 1 ≤ t) (ht : t ≤ 1000) (hn0 : 1 ≤ n) (hn : n ≤ 1000) (hF : IsFew e n t) :
    Calls Try.prog 61 #[.pointer (some ⟨b, 0, none⟩), .int .i64 e, .int .i64 n] w fun x w' => x = .returned (.int .i64 (max 1 (n - reach (t - 1) e))) ∧ ∃ m, w' = w.drewN m := by
  have c1 := hT.cell (t - 1) e (by omega) he
  have HT := Lib.hid hT
  have HF := Lib.hid hF
  clear hT hF
  obtain ⟨b3, b4⟩ := reach_bd (t - 1) e
  generalize reach (t - 1) e = Y at *
  go_enter Try.func61, Try.ntmps61
  go_wp2_with fail
  go_quiet ((go_at_call 59; exact Calls.quiet_of_same (fewest_same b e n t _ (HT.out.drewN _) he ht HF.out)))
  go_wp2_with fail
  all_goals go_ret
  all_goals exact ⟨ret_int (by omega), nq, rfl⟩
end Go.Proofs.Ytnbimnnocnhggaa.Hand
