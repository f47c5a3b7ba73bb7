/- The program's EvenMarks answers as the reference's does, for every floors and gap; no conditions. -/
import Derived.Test.YthmmjbhilnldeaaPFnExactEvenMarksx2
namespace Go.Proofs.Ythmmjbhilnldeaa.Pure
open Go.RowKit Go.Proofs.Ythmmjbhilnldeaa.PFnExactEvenMarks Go.Proofs.YthmmjbhilnldeaaW.PrintWords Go.Proofs.YthmmjbhilnldeaaW.PrintLast
set_option linter.unusedVariables false

theorem wrap64_small {x : Int} (h0 : -9223372036854775808 ≤ x) (h1 : x < 9223372036854775808) : wrap64 x = x := by
  unfold wrap64; omega

theorem rd_set (l : List Int) (i : Nat) (v : Int) (j : Int) (hj : 0 ≤ j) (hi : i < l.length) : rd (l.set i v) j = if j = (i : Int) then v else rd l j := by
  unfold rd
  by_cases h : j = (i : Int)
  · subst h
    simp [hi]
  · rw [if_neg h]
    have : i ≠ j.toNat := by omega
    simp [List.getD_eq_getElem?_getD, this]

theorem eqIntS_l0 (l : List Int) (hl : l.length < 1000000000000) (d : Nat) : ∀ (i : Int), 0 ≤ i → i ≤ l.length → (l.length : Int) - i = d → Ev (fun k => laws_eqIntS.l0 k l l i) true := by
  induction d with
  | zero =>
    intro i h0 h1 hd
    exact Ev.step (f := fun _ => some true) (fun k => by simp only [laws_eqIntS.l0]; rw [if_neg (by omega)]) (Ev.now _)
  | succ d ih =>
    intro i h0 h1 hd
    have hlt : i < (l.length : Int) := by omega
    have hw : wrap64 (i + 1) = i + 1 := wrap64_small (by omega) (by omega)
    exact Ev.step (f := fun k => laws_eqIntS.l0 k l l (i + 1)) (fun k => by simp only [laws_eqIntS.l0]; rw [if_pos hlt, if_pos h0, if_pos hlt, if_pos trivial, hw]) (ih (i + 1) (by omega) (by omega) (by omega))

theorem eqIntS_self (l : List Int) (hl : l.length < 1000000000000) : Ev (fun k => laws_eqIntS.f k l l) true :=
  Ev.congr (f := fun k => laws_eqIntS.l0 k l l 0) (fun k => by unfold laws_eqIntS.f; rw [if_pos rfl]) (eqIntS_l0 l hl l.length 0 (by omega) (by omega) (by omega))

theorem markIntS_l0 (n : Nat) (hn : n < 1000000000000) (a : Int) (ha0 : 0 ≤ a) (ha1 : a < 1000000000000) (d : Nat) : ∀ (x : List Int) (i : Int), x.length = n → 0 ≤ i → i ≤ n → (n : Int) - i = d → (∀ j : Int, 0 ≤ j → j < i → rd x j = a + j) →
    ∃ r, Ev (fun k => laws_markIntS.l0 k x (a + i) i) (a + n, r) ∧ r.length = n ∧ ∀ j : Int, 0 ≤ j → j < n → rd r j = a + j := by
  induction d with
  | zero =>
    intro x i hx h0 h1 hd hj
    have hi : i = n := by omega
    subst hi
    exact ⟨x, Ev.step (f := fun _ => some (a + n, x)) (fun k => by simp only [laws_markIntS.l0]; rw [if_neg (by omega)]) (Ev.now _), hx, hj⟩
  | succ d ih =>
    intro x i hx h0 h1 hd hj
    have hlt : i < (x.length : Int) := by omega
    have hw : wrap64 (i + 1) = i + 1 := wrap64_small (by omega) (by omega)
    have hw2 : wrap64 (a + i + 1) = a + (i + 1) := by rw [wrap64_small (by omega) (by omega)]; omega
    obtain ⟨r, hr, hl, hv⟩ := ih (x.set i.toNat (a + i)) (i + 1) (by simp [hx]) (by omega) (by omega) (by omega) (fun j h0j hji => by
      rw [rd_set _ _ _ _ h0j (by omega)]
      by_cases e : j = (i.toNat : Int)
      · rw [if_pos e]; omega
      · rw [if_neg e]; exact hj j h0j (by omega))
    exact ⟨r, Ev.step (f := fun k => laws_markIntS.l0 k (x.set i.toNat (a + i)) (a + (i + 1)) (i + 1)) (fun k => by simp only [laws_markIntS.l0]; rw [if_pos hlt, if_pos h0, hw, hw2]) hr, hl, hv⟩

theorem heldIntS_l0 (r : List Int) (hn : r.length < 1000000000000) (a : Int) (ha0 : 0 ≤ a) (ha1 : a < 1000000000000) (hv : ∀ j : Int, 0 ≤ j → j < r.length → rd r j = a + j) (d : Nat) : ∀ (i : Int), 0 ≤ i → i ≤ r.length → (r.length : Int) - i = d →
    Ev (fun k => laws_heldIntS.l0 k r (a + i) i) (a + r.length) := by
  induction d with
  | zero =>
    intro i h0 h1 hd
    have hi : i = r.length := by omega
    subst hi
    exact Ev.step (f := fun _ => some (a + r.length)) (fun k => by simp only [laws_heldIntS.l0]; rw [if_neg (by omega)]) (Ev.now _)
  | succ d ih =>
    intro i h0 h1 hd
    have hlt : i < (r.length : Int) := by omega
    have hw : wrap64 (i + 1) = i + 1 := wrap64_small (by omega) (by omega)
    have hw2 : wrap64 (a + i + 1) = a + (i + 1) := by rw [wrap64_small (by omega) (by omega)]; omega
    exact Ev.step (f := fun k => laws_heldIntS.l0 k r (a + (i + 1)) (i + 1)) (fun k => by simp only [laws_heldIntS.l0]; rw [if_pos hlt, if_pos h0, if_pos (hv i h0 hlt), hw, hw2]) (ih (i + 1) (by omega) (by omega) (by omega))

theorem mark_held (l : List Int) (hl : l.length < 1000000000) : ∃ r, Ev (fun k => laws_markIntS.f k l 101) (101 + (l.length : Int), r) ∧ Ev (fun k => laws_heldIntS.f k r 101) (101 + (l.length : Int)) ∧ r.length = l.length := by
  obtain ⟨r, h1, h2, h3⟩ := markIntS_l0 l.length (by omega) 101 (by omega) (by omega) l.length l 0 rfl (by omega) (by omega) (by omega) (fun j _ _ => by omega)
  refine ⟨r, h1, ?_, h2⟩
  have := heldIntS_l0 r (by omega) 101 (by omega) (by omega) (fun j h0 h1 => h3 j h0 (by omega)) r.length 0 (by omega) (by omega) (by omega)
  rw [h2] at this
  exact this

theorem l1In_some (a b c : Int) : spec_l1In.f a b c = some (decide (b ≤ a ∧ a ≤ c)) := by
  unfold spec_l1In.f
  by_cases h : a ≥ b
  · rw [if_pos h]; congr 1; rw [Bool.eq_iff_iff]; simp; omega
  · rw [if_neg h]; congr 1; symm; rw [decide_eq_false_iff_not]; omega

theorem within_some (a b c : Int) : impl_within.f a b c = some (decide (b ≤ a ∧ a ≤ c)) := by
  unfold impl_within.f
  by_cases h : a ≥ b
  · rw [if_pos h]; congr 1; rw [Bool.eq_iff_iff]; simp; omega
  · rw [if_neg h]; congr 1; symm; rw [decide_eq_false_iff_not]; omega

theorem even_same (k : Nat) : ∀ (a b : Int) (l : List Int) (m : Int), spec_stEven.l0 k a b l m = impl_evenMarks.l0 k a b l m := by
  induction k with
  | zero => intro a b l m; simp only [spec_stEven.l0, impl_evenMarks.l0]
  | succ k ih => intro a b l m; simp only [spec_stEven.l0, impl_evenMarks.l0, ih]

theorem even_ends (a b : Int) (ha : a ≤ 100) (hb0 : 1 ≤ b) (hb1 : b ≤ 100) (d : Nat) : ∀ (l : List Int) (m : Int), 0 ≤ m → m ≤ 200 → a - m < d → l.length + d < 1000 →
    ∃ r, Ev (fun k => impl_evenMarks.l0 k a b l m) r ∧ r.length < 1000 := by
  induction d with
  | zero =>
    intro l m h0 h1 hd hl
    exact ⟨l, Ev.step (f := fun _ => some l) (fun k => by simp only [impl_evenMarks.l0]; rw [if_neg (by omega)]) (Ev.now _), by omega⟩
  | succ d ih =>
    intro l m h0 h1 hd hl
    by_cases h : m ≤ a
    · obtain ⟨r, hr, hr2⟩ := ih (l ++ [m]) (m + b) (by omega) (by omega) (by omega) (by simp; omega)
      exact ⟨r, Ev.step (f := fun k => impl_evenMarks.l0 k a b (l ++ [m]) (m + b)) (fun k => by simp only [impl_evenMarks.l0]; rw [if_pos h, if_pos (by omega), wrap64_small (by omega) (by omega)]) hr, hr2⟩
    · exact ⟨l, Ev.step (f := fun _ => some l) (fun k => by simp only [impl_evenMarks.l0]; rw [if_neg h]) (Ev.now _), by omega⟩

theorem both (a0 a1 : Int) : ∃ l b, Ev (fun k => spec_EvenMarks.f k a0 a1) (l, b) ∧ Ev (fun k => impl_EvenMarks.f k a0 a1) (l, b) ∧ l.length < 1000 := by
  have e : ∀ k, spec_EvenMarks.f k a0 a1 = impl_EvenMarks.f k a0 a1 := by
    intro k
    unfold spec_EvenMarks.f impl_EvenMarks.f spec_stFloors.f impl_isMarked.f spec_stEven.f impl_evenMarks.f
    simp only [l1In_some, within_some, even_same]
  suffices h : ∃ l b, Ev (fun k => impl_EvenMarks.f k a0 a1) (l, b) ∧ l.length < 1000 by
    obtain ⟨l, b, h1, h2⟩ := h
    exact ⟨l, b, Ev.congr e h1, h1, h2⟩
  by_cases h0 : 0 ≤ a0 ∧ a0 ≤ 100
  · by_cases h1 : 1 ≤ a1 ∧ a1 ≤ 100
    · obtain ⟨r, hr, hl⟩ := even_ends a0 a1 h0.2 h1.1 h1.2 200 [] a1 (by omega) (by omega) (by omega) (by simp)
      refine ⟨r, true, Ev.congr (f := fun k => (impl_evenMarks.f k a0 a1).bind fun t => some (t, true)) (fun k => ?_) (Ev.bind (f := fun _ t => some (t, true)) hr (Ev.now _)), hl⟩
      unfold impl_EvenMarks.f impl_isMarked.f
      simp only [within_some, Option.bind_some, h0, h1, and_self, decide_true, if_true]
    · refine ⟨[], false, Ev.congr (f := fun k => some ([], false)) (fun k => ?_) (Ev.now _), by simp⟩
      unfold impl_EvenMarks.f impl_isMarked.f
      simp only [within_some, Option.bind_some, h0, h1, and_self, decide_true, if_true, decide_false, Bool.false_eq_true, if_false]
  · refine ⟨[], false, Ev.congr (f := fun k => some ([], false)) (fun k => ?_) (Ev.now _), by simp⟩
    unfold impl_EvenMarks.f impl_isMarked.f
    simp only [within_some, Option.bind_some, h0, decide_false, Bool.false_eq_true, if_false]

theorem FnExactEvenMarks : laws_FnExactEvenMarks.Pure := by
  intro a0 a1 _ _
  obtain ⟨l, b, hs, hi, hl⟩ := both a0 a1
  obtain ⟨r, hm, hh, hrl⟩ := mark_held l (by omega)
  have heq := eqIntS_self l (by omega)
  apply Ev.rounds
  unfold laws_FnExactEvenMarks.f
  refine Ev.bind hs ?_
  refine Ev.bind hi ?_
  refine Ev.bind heq ?_
  simp only [if_true, bne_self_eq_false]
  refine Ev.step (fun k => by simp only [laws_FnExactEvenMarks.j0]; rfl) ?_
  simp only [Bool.false_eq_true, if_false]
  refine Ev.bind hm ?_
  refine Ev.bind hh ?_
  simp only [show ¬ ((101 : Int) + (l.length : Int) < 0) by omega, if_false, if_true]
  refine Ev.bind hi ?_
  refine Ev.bind heq ?_
  simp only [if_true, bne_self_eq_false]
  refine Ev.step (fun k => by simp only [laws_FnExactEvenMarks.j1]; rfl) ?_
  simp only [Bool.false_eq_true, if_false]
  refine Ev.bind hh ?_
  simp only [show ¬ ((101 : Int) + (l.length : Int) < 0) by omega, if_false, if_true]
  exact Ev.now _

end Go.Proofs.Ythmmjbhilnldeaa.Pure
