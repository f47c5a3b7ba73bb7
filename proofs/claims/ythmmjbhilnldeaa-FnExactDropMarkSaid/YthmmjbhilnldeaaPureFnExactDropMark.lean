/- The program's DropMark answers as the reference's does, in memory of its own, and leaves the row that it is given alone, for every floors, marks and place; no conditions. -/
import Derived.Test.YthmmjbhilnldeaaQFnExactDropMarkx3
namespace Go.Proofs.Ythmmjbhilnldeaa.Pure
open Go.RowKit Go.Proofs.Ythmmjbhilnldeaa.QFnExactDropMark Go.Proofs.YthmmjbhilnldeaaW.PrintWords Go.Proofs.YthmmjbhilnldeaaW.PrintLast
set_option linter.unusedVariables false

theorem wrap64_small {x : Int} (h0 : -9223372036854775808 ≤ x) (h1 : x < 9223372036854775808) : wrap64 x = x := by
  unfold wrap64; omega
theorem l1In_some (a b c : Int) : spec_l1In.f a b c = some (decide (b ≤ a ∧ a ≤ c)) := by
  unfold spec_l1In.f
  by_cases h : a ≥ b
  · rw [if_pos h]; congr 1; rw [Bool.eq_iff_iff]; simp; omega
  · rw [if_neg h]; congr 1; symm; rw [decide_eq_false_iff_not]; omega
theorem l1In_yes {a b c : Int} (h : b ≤ a ∧ a ≤ c) : spec_l1In.f a b c = some true := by rw [l1In_some, decide_eq_true h]
theorem l1In_no {a b c : Int} (h : ¬ (b ≤ a ∧ a ≤ c)) : spec_l1In.f a b c = some false := by rw [l1In_some, decide_eq_false h]
theorem if_ff {α : Type} (x y : α) : (if false = true then x else y) = y := if_neg (by decide)

theorem within_some (a b c : Int) : impl_within.f a b c = some (decide (b ≤ a ∧ a ≤ c)) := by
  unfold impl_within.f
  by_cases h : a ≥ b
  · rw [if_pos h]; congr 1; rw [Bool.eq_iff_iff]; simp; omega
  · rw [if_neg h]; congr 1; symm; rw [decide_eq_false_iff_not]; omega
theorem within_yes {a b c : Int} (h : b ≤ a ∧ a ≤ c) : impl_within.f a b c = some true := by rw [within_some, decide_eq_true h]
theorem within_no {a b c : Int} (h : ¬ (b ≤ a ∧ a ≤ c)) : impl_within.f a b c = some false := by rw [within_some, decide_eq_false h]

theorem rd_set (l : List Int) (i : Nat) (v : Int) (j : Int) (hj : 0 ≤ j) (hi : i < l.length) : rd (l.set i v) j = if j = (i : Int) then v else rd l j := by
  unfold rd
  by_cases h : j = (i : Int)
  · subst h
    simp [hi]
  · rw [if_neg h]
    have : i ≠ j.toNat := by omega
    simp [List.getD_eq_getElem?_getD, this]

theorem rising_l0 (a : Int) (l : List Int) (hl : l.length < 1000000000000) (d : Nat) : ∀ (i : Int), 0 ≤ i → i ≤ l.length → (l.length : Int) - i = d →
    ∃ r, Ev (fun k => impl_areRising.l0 k a l l (l.length : Int) i) r ∧ Ev (fun k => spec_l1Rising.l0 k l 1 a l (l.length : Int) i) r ∧ (r = true → ∀ j : Int, i ≤ j → j < l.length → 1 ≤ rd l j ∧ rd l j ≤ a ∧ (0 < j → rd l (j - 1) < rd l j)) := by
  induction d with
  | zero =>
    intro i h0 h1 hd
    refine ⟨true, Ev.step (f := fun _ => some true) (fun k => ?_) (Ev.now _), Ev.step (f := fun _ => some true) (fun k => ?_) (Ev.now _), fun _ j h2 h3 => by omega⟩
    · simp only [impl_areRising.l0]; rw [if_neg (by omega)]
    · simp only [spec_l1Rising.l0]; rw [if_neg (by omega)]
  | succ d ih =>
    intro i h0 h1 hd
    have hlt : i < (l.length : Int) := by omega
    have e1 : wrap64 (i + 1) = i + 1 := wrap64_small (by omega) (by omega)
    have e2 : wrap64 (i - 1) = i - 1 := wrap64_small (by omega) (by omega)
    obtain ⟨r, hr, hs, hp⟩ := ih (i + 1) (by omega) (by omega) (by omega)
    by_cases hw : 1 ≤ rd l i ∧ rd l i ≤ a
    · by_cases hi : i > 0
      · by_cases hc : rd l (i - 1) ≥ rd l i
        · refine ⟨false, Ev.step (f := fun _ => some false) (fun k => ?_) (Ev.now _), Ev.step (f := fun _ => some false) (fun k => ?_) (Ev.now _), fun h => by cases h⟩
          · simp only [impl_areRising.l0]; rw [if_pos hlt, if_pos h0, if_pos hlt, within_yes hw, Option.bind_some, if_pos rfl, if_pos hi, e2, if_pos (by omega), if_pos (by omega), if_pos hc]
          · simp only [spec_l1Rising.l0]; rw [if_pos hlt, if_pos h0, if_pos hlt, l1In_yes hw, Option.bind_some, if_pos rfl, if_pos hi, e2, if_pos (by omega), if_pos (by omega), if_pos hc]
        · refine ⟨r, Ev.step (f := fun k => impl_areRising.l0 k a l l (l.length : Int) (i + 1)) (fun k => ?_) hr, Ev.step (f := fun k => spec_l1Rising.l0 k l 1 a l (l.length : Int) (i + 1)) (fun k => ?_) hs, fun h j h2 h3 => ?_⟩
          · simp only [impl_areRising.l0]; rw [if_pos hlt, if_pos h0, if_pos hlt, within_yes hw, Option.bind_some, if_pos rfl, if_pos hi, e2, if_pos (by omega), if_pos (by omega), if_neg hc, e1]
          · simp only [spec_l1Rising.l0]; rw [if_pos hlt, if_pos h0, if_pos hlt, l1In_yes hw, Option.bind_some, if_pos rfl, if_pos hi, e2, if_pos (by omega), if_pos (by omega), if_neg hc, e1]
          · by_cases e : j = i
            · subst e; exact ⟨hw.1, hw.2, fun _ => by omega⟩
            · exact hp h j (by omega) h3
      · refine ⟨r, Ev.step (f := fun k => impl_areRising.l0 k a l l (l.length : Int) (i + 1)) (fun k => ?_) hr, Ev.step (f := fun k => spec_l1Rising.l0 k l 1 a l (l.length : Int) (i + 1)) (fun k => ?_) hs, fun h j h2 h3 => ?_⟩
        · simp only [impl_areRising.l0]; rw [if_pos hlt, if_pos h0, if_pos hlt, within_yes hw, Option.bind_some, if_pos rfl, if_neg hi, e1]
        · simp only [spec_l1Rising.l0]; rw [if_pos hlt, if_pos h0, if_pos hlt, l1In_yes hw, Option.bind_some, if_pos rfl, if_neg hi, e1]
        · by_cases e : j = i
          · subst e; exact ⟨hw.1, hw.2, fun h => absurd h hi⟩
          · exact hp h j (by omega) h3
    · refine ⟨false, Ev.step (f := fun _ => some false) (fun k => ?_) (Ev.now _), Ev.step (f := fun _ => some false) (fun k => ?_) (Ev.now _), fun h => by cases h⟩
      · simp only [impl_areRising.l0]; rw [if_pos hlt, if_pos h0, if_pos hlt, within_no hw, Option.bind_some, if_ff]
      · simp only [spec_l1Rising.l0]; rw [if_pos hlt, if_pos h0, if_pos hlt, l1In_no hw, Option.bind_some, if_ff]
/-- Marks as the program and as the reference see them. -/
theorem good_ev (a : Int) (l : List Int) (hl : l.length < 1000000000000) : ∃ r, Ev (fun k => impl_AreMarks.f k a l) r ∧ Ev (fun k => spec_stGood.f k a l) r ∧ (r = true → (0 ≤ a ∧ a ≤ 100) ∧ ∀ j : Int, 0 ≤ j → j < l.length → 1 ≤ rd l j ∧ rd l j ≤ a ∧ (0 < j → rd l (j - 1) < rd l j)) := by
  by_cases h : 0 ≤ a ∧ a ≤ 100
  · obtain ⟨r, h1, h2, h3⟩ := rising_l0 a l hl l.length 0 (by omega) (by omega) (by omega)
    refine ⟨r, ?_, ?_, fun hr => ⟨h, h3 hr⟩⟩
    · refine Ev.congr (f := fun k => (impl_areRising.f k a l).bind fun t => some t) (fun k => ?_) (Ev.bind (f := fun _ t => some t) h1 (Ev.now _))
      unfold impl_AreMarks.f impl_isMarked.f
      rw [within_yes h, Option.bind_some, Option.bind_some, if_pos rfl]
    · refine Ev.congr (f := fun k => (spec_l1Rising.f k l 1 a).bind fun t => some t) (fun k => ?_) (Ev.bind (f := fun _ t => some t) h2 (Ev.now _))
      unfold spec_stGood.f spec_stFloors.f
      rw [l1In_yes h, Option.bind_some, Option.bind_some, if_pos rfl]
  · refine ⟨false, Ev.congr (f := fun _ => some false) (fun k => ?_) (Ev.now _), Ev.congr (f := fun _ => some false) (fun k => ?_) (Ev.now _), fun h => by cases h⟩
    · unfold impl_AreMarks.f impl_isMarked.f
      rw [within_no h, Option.bind_some, Option.bind_some, if_ff]
    · unfold spec_stGood.f spec_stFloors.f
      rw [l1In_no h, Option.bind_some, Option.bind_some, if_ff]

theorem eqIntS_l0 (l : List Int) (hl : l.length < 1000000000000) (d : Nat) : ∀ (i : Int), 0 ≤ i → i ≤ l.length → (l.length : Int) - i = d → Ev (fun k => laws_eqIntS.l0 k l l i) true := by
  induction d with
  | zero =>
    intro i h0 h1 hd
    exact Ev.step (f := fun _ => some true) (fun k => by simp only [laws_eqIntS.l0]; rw [if_neg (by omega)]) (Ev.now _)
  | succ d ih =>
    intro i h0 h1 hd
    have hlt : i < (l.length : Int) := by omega
    have hw : wrap64 (i + 1) = i + 1 := wrap64_small (by omega) (by omega)
    exact Ev.step (f := fun k => laws_eqIntS.l0 k l l (i + 1)) (fun k => by simp only [laws_eqIntS.l0]; rw [if_pos hlt, if_pos h0, if_pos hlt, if_pos trivial, hw]) (ih (i + 1) (by omega) (by omega) (by omega))

theorem eqIntS_self (l : List Int) (hl : l.length < 1000000000000) : Ev (fun k => laws_eqIntS.f k l l) true :=
  Ev.congr (f := fun k => laws_eqIntS.l0 k l l 0) (fun k => by unfold laws_eqIntS.f; rw [if_pos rfl]) (eqIntS_l0 l hl l.length 0 (by omega) (by omega) (by omega))

theorem markIntS_l0 (n : Nat) (hn : n < 1000000000000) (a : Int) (ha0 : 0 ≤ a) (ha1 : a < 1000000000000) (d : Nat) : ∀ (x : List Int) (i : Int), x.length = n → 0 ≤ i → i ≤ n → (n : Int) - i = d → (∀ j : Int, 0 ≤ j → j < i → rd x j = a + j) →
    ∃ r, Ev (fun k => laws_markIntS.l0 k x (a + i) i) (a + n, r) ∧ r.length = n ∧ ∀ j : Int, 0 ≤ j → j < n → rd r j = a + j := by
  induction d with
  | zero =>
    intro x i hx h0 h1 hd hj
    have hi : i = n := by omega
    subst hi
    exact ⟨x, Ev.step (f := fun _ => some (a + n, x)) (fun k => by simp only [laws_markIntS.l0]; rw [if_neg (by omega)]) (Ev.now _), hx, hj⟩
  | succ d ih =>
    intro x i hx h0 h1 hd hj
    have hlt : i < (x.length : Int) := by omega
    have hw : wrap64 (i + 1) = i + 1 := wrap64_small (by omega) (by omega)
    have hw2 : wrap64 (a + i + 1) = a + (i + 1) := by rw [wrap64_small (by omega) (by omega)]; omega
    obtain ⟨r, hr, hl, hv⟩ := ih (x.set i.toNat (a + i)) (i + 1) (by simp [hx]) (by omega) (by omega) (by omega) (fun j h0j hji => by
      rw [rd_set _ _ _ _ h0j (by omega)]
      by_cases e : j = (i.toNat : Int)
      · rw [if_pos e]; omega
      · rw [if_neg e]; exact hj j h0j (by omega))
    exact ⟨r, Ev.step (f := fun k => laws_markIntS.l0 k (x.set i.toNat (a + i)) (a + (i + 1)) (i + 1)) (fun k => by simp only [laws_markIntS.l0]; rw [if_pos hlt, if_pos h0, hw, hw2]) hr, hl, hv⟩

theorem heldIntS_l0 (r : List Int) (hn : r.length < 1000000000000) (a : Int) (ha0 : 0 ≤ a) (ha1 : a < 1000000000000) (hv : ∀ j : Int, 0 ≤ j → j < r.length → rd r j = a + j) (d : Nat) : ∀ (i : Int), 0 ≤ i → i ≤ r.length → (r.length : Int) - i = d →
    Ev (fun k => laws_heldIntS.l0 k r (a + i) i) (a + r.length) := by
  induction d with
  | zero =>
    intro i h0 h1 hd
    have hi : i = r.length := by omega
    subst hi
    exact Ev.step (f := fun _ => some (a + r.length)) (fun k => by simp only [laws_heldIntS.l0]; rw [if_neg (by omega)]) (Ev.now _)
  | succ d ih =>
    intro i h0 h1 hd
    have hlt : i < (r.length : Int) := by omega
    have hw : wrap64 (i + 1) = i + 1 := wrap64_small (by omega) (by omega)
    have hw2 : wrap64 (a + i + 1) = a + (i + 1) := by rw [wrap64_small (by omega) (by omega)]; omega
    exact Ev.step (f := fun k => laws_heldIntS.l0 k r (a + (i + 1)) (i + 1)) (fun k => by simp only [laws_heldIntS.l0]; rw [if_pos hlt, if_pos h0, if_pos (hv i h0 hlt), hw, hw2]) (ih (i + 1) (by omega) (by omega) (by omega))

theorem mark_held (l : List Int) (hl : l.length < 1000000000) : ∃ r, Ev (fun k => laws_markIntS.f k l 101) (101 + (l.length : Int), r) ∧ Ev (fun k => laws_heldIntS.f k r 101) (101 + (l.length : Int)) ∧ r.length = l.length := by
  obtain ⟨r, h1, h2, h3⟩ := markIntS_l0 l.length (by omega) 101 (by omega) (by omega) l.length l 0 rfl (by omega) (by omega) (by omega) (fun j _ _ => by omega)
  refine ⟨r, h1, ?_, h2⟩
  have := heldIntS_l0 r (by omega) 101 (by omega) (by omega) (fun j h0 h1 => h3 j h0 (by omega)) r.length 0 (by omega) (by omega) (by omega)
  rw [h2] at this
  exact this

theorem mark_ev (l : List Int) (hl : l.length < 1000000000) (a : Int) (h0 : 0 ≤ a) (h1 : a < 1000000000000) : ∃ r, Ev (fun k => laws_markIntS.f k l a) (a + (l.length : Int), r) := by
  obtain ⟨r, h2, _⟩ := markIntS_l0 l.length (by omega) a h0 h1 l.length l 0 rfl (by omega) (by omega) (by omega) (fun j _ _ => by omega)
  rw [Int.add_zero] at h2
  exact ⟨r, h2⟩
theorem stLess_some (l : List Int) (m : Nat) (h : m < l.length) (hl : l.length ≤ 1000000) : spec_stLess.f l (m : Int) = some (Go.Proofs.Ythmmjbhilnldeaa.Hand.less l m) := by
  have hw : wrap64 ((m : Int) + 1) = ((m + 1 : Nat) : Int) := by rw [wrap64_small (by omega) (by omega)]; omega
  unfold spec_stLess.f
  rw [hw, if_pos (by omega), if_pos (by omega), Int.toNat_natCast, Int.toNat_natCast]
  unfold spec_l1Own.f
  rw [Option.bind_some, if_pos (by rw [List.length_nil, List.length_take]; omega), Option.bind_some, if_pos (by omega), if_pos (by omega), List.nil_append, if_pos (by rw [List.length_take, List.length_drop]; omega)]
  rfl
theorem drop_both (a : Int) (l : List Int) (k : Int) (h : l.length ≤ 1000000) : ∃ r : List Int × Bool, r.1.length ≤ 1000001 ∧ Ev (fun n => spec_DropMark.f n a l k) r ∧ Ev (fun n => impl_DropMark.f n a l k) r := by
  have HW := Aside0.mk (show wrap64 ((l.length : Int) - 1) = (l.length : Int) - 1 from wrap64_small (by omega) (by omega))
  obtain ⟨g, g1, g2, _⟩ := good_ev a l (by omega)
  cases g with
  | false =>
    refine ⟨([], false), by simp, ?_, ?_⟩
    · unfold spec_DropMark.f; exact Ev.bind g2 (Ev.congr (fun k => if_ff _ _) (Ev.now _))
    · unfold impl_DropMark.f; exact Ev.bind g1 (Ev.congr (fun k => if_ff _ _) (Ev.now _))
  | true =>
    by_cases c : 0 ≤ k ∧ k < (l.length : Int)
    · obtain ⟨m, rfl⟩ := Int.eq_ofNat_of_zero_le c.1
      refine ⟨(Go.Proofs.Ythmmjbhilnldeaa.Hand.less l m, true), ?_, ?_, ?_⟩
      · show (Go.Proofs.Ythmmjbhilnldeaa.Hand.less l m).length ≤ 1000001
        rw [Go.Proofs.Ythmmjbhilnldeaa.Hand.less_len l m (by omega)]; omega
      · unfold spec_DropMark.f
        rw [HW.out]
        refine Ev.bind g2 (Ev.congr (fun k => if_pos rfl) (Ev.congr (f := fun _ => some (Go.Proofs.Ythmmjbhilnldeaa.Hand.less l m, true)) (fun k => ?_) (Ev.now _)))
        rw [l1In_yes (by omega), Option.bind_some, if_pos rfl, stLess_some l m (by omega) h, Option.bind_some]
      · unfold impl_DropMark.f
        exact Ev.bind g1 (Ev.congr (fun k => if_pos rfl) (Ev.congr (fun k => if_pos c) (Ev.congr (fun k => if_pos h) (Ev.now _))))
    · refine ⟨([], false), by simp, ?_, ?_⟩
      · unfold spec_DropMark.f
        rw [HW.out]
        refine Ev.bind g2 (Ev.congr (fun k => if_pos rfl) (Ev.congr (f := fun _ => some ([], false)) (fun k => ?_) (Ev.now _)))
        rw [l1In_no (by omega), Option.bind_some, if_ff]
      · unfold impl_DropMark.f
        exact Ev.bind g1 (Ev.congr (fun k => if_pos rfl) (Ev.congr (fun k => if_neg c) (Ev.now _)))
theorem FnExactDropMark : laws_FnExactDropMark.Pure := by
  intro a0 l1 a2 _ _ _ _ _
  apply Ev.rounds
  unfold laws_FnExactDropMark.f
  by_cases h : (l1.length : Int) > 1000000
  · exact Ev.congr (fun k => if_pos h) (Ev.now _)
  · refine Ev.congr (fun k => if_neg h) ?_
    have ht := laws_toIntS.ev l1 (by omega)
    obtain ⟨r, hrl, hs, hi⟩ := drop_both a0 l1 a2 (by omega)
    have hx : Ev (fun k => laws_intactIntS.f k l1 l1) true := eqIntS_same l1 (by omega)
    obtain ⟨m0, hm0⟩ := mark_ev l1 (by omega) 101 (by omega) (by omega)
    obtain ⟨mr, hmk, hh, _⟩ := mark_held r.1 (by omega)
    have heq := eqIntS_self r.1 (by omega)
    refine Ev.bind (ht false) ?_
    refine Ev.bind hs ?_
    refine Ev.bind (ht false) ?_
    refine Ev.bind hi ?_
    refine Ev.bind heq ?_
    refine Ev.congr (fun k => if_pos rfl) ?_
    refine Ev.congr (fun k => if_neg (by simp)) ?_
    refine Ev.bind (ht false) ?_
    refine Ev.bind hx ?_
    refine Ev.congr (fun k => if_pos rfl) ?_
    refine Ev.bind hm0 ?_
    refine Ev.congr (fun k => if_neg (show ¬ ((101 + (l1.length : Int)) < 0) by omega)) ?_
    refine Ev.bind heq ?_
    refine Ev.congr (fun k => if_pos rfl) ?_
    refine Ev.bind hmk ?_
    refine Ev.bind hh ?_
    refine Ev.congr (fun k => if_neg (by omega)) ?_
    refine Ev.congr (fun k => if_pos rfl) ?_
    refine Ev.bind (ht true) ?_
    refine Ev.bind hi ?_
    refine Ev.bind heq ?_
    refine Ev.congr (fun k => if_pos rfl) ?_
    refine Ev.congr (fun k => if_neg (by simp)) ?_
    refine Ev.bind hh ?_
    refine Ev.congr (fun k => if_neg (by omega)) ?_
    refine Ev.congr (fun k => if_pos rfl) ?_
    exact Ev.now _

end Go.Proofs.Ythmmjbhilnldeaa.Pure
