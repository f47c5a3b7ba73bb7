/- The program's ShrinkingMarks answers as the reference's does, for every floors; no conditions. -/
import Derived.Test.YtnbimnnocnhggaaQFnExactShrinkingMarksx2
namespace Go.Proofs.Ytnbimnnocnhggaa.Pure
open Go.RowKit Go.Proofs.Ytnbimnnocnhggaa.QFnExactShrinkingMarks Go.Proofs.YtnbimnnocnhggaaW.PrintWords Go.Proofs.YtnbimnnocnhggaaW.PrintLast
set_option linter.unusedVariables false

theorem wrap64_small {x : Int} (h0 : -9223372036854775808 ≤ x) (h1 : x < 9223372036854775808) : wrap64 x = x := by
  unfold wrap64; omega

theorem rd_set (l : List Int) (i : Nat) (v : Int) (j : Int) (hj : 0 ≤ j) (hi : i < l.length) : rd (l.set i v) j = if j = (i : Int) then v else rd l j := by
  unfold rd
  by_cases h : j = (i : Int)
  · subst h
    simp [hi]
  · rw [if_neg h]
    have : i ≠ j.toNat := by omega
    simp [List.getD_eq_getElem?_getD, this]

theorem l1In_some (a b c : Int) : spec_l1In.f a b c = some (decide (b ≤ a ∧ a ≤ c)) := by
  unfold spec_l1In.f
  by_cases h : a ≥ b
  · rw [if_pos h]; congr 1; rw [Bool.eq_iff_iff]; simp; omega
  · rw [if_neg h]; congr 1; symm; rw [decide_eq_false_iff_not]; omega

theorem l1Least_some (a b : Int) : spec_l1Least.f a b = some (min a b) := by
  unfold spec_l1Least.f
  split <;> (congr 1; omega)

/-- The row for t tests. -/
structure Row (e t : Nat) (x : List Int) : Prop where
  len : x.length = e + 1
  at_ : ∀ j : Int, 0 ≤ j → j ≤ e → rd x j = Hand.reach t j.toNat
/-- Cells above m hold the next row already. -/
structure Mixed (e t m : Nat) (x : List Int) : Prop where
  len : x.length = e + 1
  at_ : ∀ j : Int, 0 ≤ j → j ≤ e → rd x j = if j ≤ m then Hand.reach t j.toNat else Hand.reach (t + 1) j.toNat

theorem row_zero (e : Nat) : Row e 0 (List.replicate (e + 1) 0) := by
  refine ⟨by simp, fun j h0 h1 => ?_⟩
  rw [Hand.reach_zero]
  unfold rd
  simp only [List.getD_eq_getElem?_getD, List.getElem?_replicate]
  split <;> rfl

theorem mixed_start {e t : Nat} {x : List Int} (h : Row e t x) : Mixed e t e x := ⟨h.len, fun j h0 h1 => by rw [if_pos h1]; exact h.at_ j h0 h1⟩
theorem mixed_end {e t : Nat} {x : List Int} (h : Mixed e t 0 x) : Row e (t + 1) x := ⟨h.len, fun j h0 h1 => by
  rw [h.at_ j h0 h1]
  by_cases h2 : j ≤ ((0 : Nat) : Int)
  · obtain rfl : j = 0 := by omega
    rw [if_pos h2]
    show Hand.reach t 0 = Hand.reach (t + 1) 0
    rw [Hand.reach_none, Hand.reach_none]
  · rw [if_neg h2]⟩
theorem mixed_step {e t m : Nat} {x : List Int} (h : Mixed e t (m + 1) x) (hm : m + 1 ≤ e) :
    Mixed e t m (x.set (m + 1) (min (rd x (m : Int) + rd x ((m : Int) + 1) + 1) 1000000001)) := by
  refine ⟨by rw [List.length_set]; exact h.len, fun j h0 h1 => ?_⟩
  rw [rd_set _ _ _ _ h0 (by rw [h.len]; omega)]
  by_cases hj : j = ((m + 1 : Nat) : Int)
  · subst hj
    rw [if_pos rfl, if_neg (by omega), h.at_ (m : Int) (by omega) (by omega), h.at_ ((m : Int) + 1) (by omega) (by omega), if_pos (by omega), if_pos (by omega)]
    rw [show ((m + 1 : Nat) : Int).toNat = m + 1 by omega, show ((m : Int)).toNat = m by omega, show ((m : Int) + 1).toNat = m + 1 by omega]
    rw [Hand.reach]
    omega
  · rw [if_neg hj, h.at_ j h0 h1]
    by_cases h2 : j ≤ ((m + 1 : Nat) : Int)
    · rw [if_pos h2, if_pos (by omega)]
    · rw [if_neg h2, if_neg (by omega)]
theorem mixed_bd {e t m : Nat} {x : List Int} (h : Mixed e t m x) (j : Int) (h0 : 0 ≤ j) (h1 : j ≤ e) : 0 ≤ rd x j ∧ rd x j ≤ 1000000001 := by
  rw [h.at_ j h0 h1]
  split <;> exact Hand.reach_bd _ _

theorem l1In_yes {a b c : Int} (h : b ≤ a ∧ a ≤ c) : spec_l1In.f a b c = some true := by rw [l1In_some, decide_eq_true h]
theorem l1In_no {a b c : Int} (h : ¬ (b ≤ a ∧ a ≤ c)) : spec_l1In.f a b c = some false := by rw [l1In_some, decide_eq_false h]
theorem if_ff {α : Type} (x y : α) : (if false = true then x else y) = y := if_neg (by decide)

theorem inner_few (e : Nat) (he : e ≤ 10) (a1 x6 : Int) (h6 : 0 ≤ x6) (h6' : x6 < 1000000000) (t m : Nat) : ∀ (x : List Int), Mixed e t m x → m ≤ e →
    ∃ x', Row e (t + 1) x' ∧ ∀ r, Ev (fun k => spec_flFew.l0 k e a1 x' (x6 + 1)) r → Ev (fun k => spec_flFew.l1 k e a1 x x6 m) r := by
  induction m with
  | zero =>
    intro x hx _
    exact ⟨x, mixed_end hx, fun r hr => Ev.step (f := fun k => spec_flFew.l0 k e a1 x (x6 + 1)) (fun k => by simp only [spec_flFew.l1]; rw [if_neg (by omega), wrap64_small (by omega) (by omega)]) hr⟩
  | succ m ih =>
    intro x hx hm
    obtain ⟨x', h1, h2⟩ := ih _ (mixed_step hx hm) (by omega)
    refine ⟨x', h1, fun r hr => Ev.step (f := fun k => spec_flFew.l1 k e a1 (x.set (m + 1) (min (rd x (m : Int) + rd x ((m : Int) + 1) + 1) 1000000001)) x6 m) (fun k => ?_) (h2 r hr)⟩
    have b1 := mixed_bd hx (m : Int) (by omega) (by omega)
    have b2 := mixed_bd hx ((m : Int) + 1) (by omega) (by omega)
    have hl := hx.len
    have e1 : wrap64 (((m + 1 : Nat) : Int) - 1) = m := by rw [wrap64_small (by omega) (by omega)]; omega
    have e2 : ((m + 1 : Nat) : Int) = (m : Int) + 1 := by omega
    simp only [spec_flFew.l1]
    rw [if_pos (by omega), e1, if_pos (by omega), if_pos (by omega), if_pos (by omega), if_pos (by omega), e2, wrap64_small (x := rd x (m : Int) + rd x ((m : Int) + 1)) (by omega) (by omega), wrap64_small (by omega) (by omega), l1Least_some, Option.bind_some,
      show ((m : Int) + 1).toNat = m + 1 by omega]

theorem few_l0 (e : Nat) (he : e ≤ 10) (n : Int) (T : Nat) (hT : T ≤ 1000) (hF : Hand.IsFew e n T) (d : Nat) : ∀ (t : Nat) (x : List Int), Row e t x → t + d = T → Ev (fun k => spec_flFew.l0 k e n x t) T := by
  induction d with
  | zero =>
    intro t x hx ht
    obtain rfl : t = T := by omega
    have hl := hx.len
    have := hF.1
    refine Ev.step (f := fun _ => some (t : Int)) (fun k => ?_) (Ev.now _)
    simp only [spec_flFew.l0]
    rw [if_pos (by omega), if_pos (by omega), hx.at_ e (by omega) (by omega), Int.toNat_natCast, if_neg (by omega)]
  | succ d ih =>
    intro t x hx ht
    have hl := hx.len
    have := hF.2 t (by omega)
    obtain ⟨x', h1, h2⟩ := inner_few e he n t (by omega) (by omega) t e x (mixed_start hx) (Nat.le_refl _)
    refine Ev.step (f := fun k => spec_flFew.l1 k e n x t e) (fun k => ?_) (h2 _ ?_)
    · simp only [spec_flFew.l0]; rw [if_pos (by omega), if_pos (by omega), hx.at_ e (by omega) (by omega), Int.toNat_natCast, if_pos this]
    · have := ih (t + 1) x' h1 (by omega)
      rw [show ((t + 1 : Nat) : Int) = (t : Int) + 1 by omega] at this
      exact this
theorem flFew_ev (e : Nat) (he1 : 1 ≤ e) (he : e ≤ 10) (n : Int) (hn : n ≤ 1000) : Ev (fun k => spec_flFew.f k e n) (Hand.fewT e n) := by
  have hs := Hand.fewT_spec e he1 n hn
  refine Ev.congr (f := fun k => spec_flFew.l0 k e n (List.replicate (e + 1) 0) (0 : Nat)) (fun k => ?_) (few_l0 e he n _ hs.1 hs.2 (Hand.fewT e n) 0 _ (row_zero e) (by omega))
  unfold spec_flFew.f
  have e1 : wrap64 ((e : Int) + 1) = (e : Int) + 1 := wrap64_small (by omega) (by omega)
  rw [e1, if_pos (by omega), if_pos (by omega), show ((e : Int) + 1).toNat = e + 1 by omega]; rfl

theorem within_some (a b c : Int) : impl_within.f a b c = some (decide (b ≤ a ∧ a ≤ c)) := by
  unfold impl_within.f
  by_cases h : a ≥ b
  · rw [if_pos h]; congr 1; rw [Bool.eq_iff_iff]; simp; omega
  · rw [if_neg h]; congr 1; symm; rw [decide_eq_false_iff_not]; omega
theorem within_yes {a b c : Int} (h : b ≤ a ∧ a ≤ c) : impl_within.f a b c = some true := by rw [within_some, decide_eq_true h]
theorem within_no {a b c : Int} (h : ¬ (b ≤ a ∧ a ≤ c)) : impl_within.f a b c = some false := by rw [within_some, decide_eq_false h]

theorem eqIntS_l0 (l : List Int) (hl : l.length < 1000000000000) (d : Nat) : ∀ (i : Int), 0 ≤ i → i ≤ l.length → (l.length : Int) - i = d → Ev (fun k => laws_eqIntS.l0 k l l i) true := by
  induction d with
  | zero =>
    intro i h0 h1 hd
    exact Ev.step (f := fun _ => some true) (fun k => by simp only [laws_eqIntS.l0]; rw [if_neg (by omega)]) (Ev.now _)
  | succ d ih =>
    intro i h0 h1 hd
    have hlt : i < (l.length : Int) := by omega
    have hw : wrap64 (i + 1) = i + 1 := wrap64_small (by omega) (by omega)
    exact Ev.step (f := fun k => laws_eqIntS.l0 k l l (i + 1)) (fun k => by simp only [laws_eqIntS.l0]; rw [if_pos hlt, if_pos h0, if_pos hlt, if_pos trivial, hw]) (ih (i + 1) (by omega) (by omega) (by omega))

theorem eqIntS_self (l : List Int) (hl : l.length < 1000000000000) : Ev (fun k => laws_eqIntS.f k l l) true :=
  Ev.congr (f := fun k => laws_eqIntS.l0 k l l 0) (fun k => by unfold laws_eqIntS.f; rw [if_pos rfl]) (eqIntS_l0 l hl l.length 0 (by omega) (by omega) (by omega))

theorem markIntS_l0 (n : Nat) (hn : n < 1000000000000) (a : Int) (ha0 : 0 ≤ a) (ha1 : a < 1000000000000) (d : Nat) : ∀ (x : List Int) (i : Int), x.length = n → 0 ≤ i → i ≤ n → (n : Int) - i = d → (∀ j : Int, 0 ≤ j → j < i → rd x j = a + j) →
    ∃ r, Ev (fun k => laws_markIntS.l0 k x (a + i) i) (a + n, r) ∧ r.length = n ∧ ∀ j : Int, 0 ≤ j → j < n → rd r j = a + j := by
  induction d with
  | zero =>
    intro x i hx h0 h1 hd hj
    have hi : i = n := by omega
    subst hi
    exact ⟨x, Ev.step (f := fun _ => some (a + n, x)) (fun k => by simp only [laws_markIntS.l0]; rw [if_neg (by omega)]) (Ev.now _), hx, hj⟩
  | succ d ih =>
    intro x i hx h0 h1 hd hj
    have hlt : i < (x.length : Int) := by omega
    have hw : wrap64 (i + 1) = i + 1 := wrap64_small (by omega) (by omega)
    have hw2 : wrap64 (a + i + 1) = a + (i + 1) := by rw [wrap64_small (by omega) (by omega)]; omega
    obtain ⟨r, hr, hl, hv⟩ := ih (x.set i.toNat (a + i)) (i + 1) (by simp [hx]) (by omega) (by omega) (by omega) (fun j h0j hji => by
      rw [rd_set _ _ _ _ h0j (by omega)]
      by_cases e : j = (i.toNat : Int)
      · rw [if_pos e]; omega
      · rw [if_neg e]; exact hj j h0j (by omega))
    exact ⟨r, Ev.step (f := fun k => laws_markIntS.l0 k (x.set i.toNat (a + i)) (a + (i + 1)) (i + 1)) (fun k => by simp only [laws_markIntS.l0]; rw [if_pos hlt, if_pos h0, hw, hw2]) hr, hl, hv⟩

theorem heldIntS_l0 (r : List Int) (hn : r.length < 1000000000000) (a : Int) (ha0 : 0 ≤ a) (ha1 : a < 1000000000000) (hv : ∀ j : Int, 0 ≤ j → j < r.length → rd r j = a + j) (d : Nat) : ∀ (i : Int), 0 ≤ i → i ≤ r.length → (r.length : Int) - i = d →
    Ev (fun k => laws_heldIntS.l0 k r (a + i) i) (a + r.length) := by
  induction d with
  | zero =>
    intro i h0 h1 hd
    have hi : i = r.length := by omega
    subst hi
    exact Ev.step (f := fun _ => some (a + r.length)) (fun k => by simp only [laws_heldIntS.l0]; rw [if_neg (by omega)]) (Ev.now _)
  | succ d ih =>
    intro i h0 h1 hd
    have hlt : i < (r.length : Int) := by omega
    have hw : wrap64 (i + 1) = i + 1 := wrap64_small (by omega) (by omega)
    have hw2 : wrap64 (a + i + 1) = a + (i + 1) := by rw [wrap64_small (by omega) (by omega)]; omega
    exact Ev.step (f := fun k => laws_heldIntS.l0 k r (a + (i + 1)) (i + 1)) (fun k => by simp only [laws_heldIntS.l0]; rw [if_pos hlt, if_pos h0, if_pos (hv i h0 hlt), hw, hw2]) (ih (i + 1) (by omega) (by omega) (by omega))

theorem mark_held (l : List Int) (hl : l.length < 1000000000) : ∃ r, Ev (fun k => laws_markIntS.f k l 101) (101 + (l.length : Int), r) ∧ Ev (fun k => laws_heldIntS.f k r 101) (101 + (l.length : Int)) ∧ r.length = l.length := by
  obtain ⟨r, h1, h2, h3⟩ := markIntS_l0 l.length (by omega) 101 (by omega) (by omega) l.length l 0 rfl (by omega) (by omega) (by omega) (fun j _ _ => by omega)
  refine ⟨r, h1, ?_, h2⟩
  have := heldIntS_l0 r (by omega) 101 (by omega) (by omega) (fun j h0 h1 => h3 j h0 (by omega)) r.length 0 (by omega) (by omega) (by omega)
  rw [h2] at this
  exact this

theorem law_of (a0 : Int) (l : List Int) (b : Bool) (hl : l.length < 1000000) (hs : Ev (fun k => spec_ShrinkingMarks.f k a0) (l, b)) (hi : Ev (fun k => impl_ShrinkingMarks.f k a0) (l, b)) : ∃ k, laws_FnExactShrinkingMarks.f k a0 = some true := by
  obtain ⟨r, hm, hh, hrl⟩ := mark_held l (by omega)
  have heq := eqIntS_self l (by omega)
  apply Ev.rounds
  unfold laws_FnExactShrinkingMarks.f
  refine Ev.bind hs ?_
  refine Ev.bind hi ?_
  refine Ev.bind heq ?_
  simp only [if_true, bne_self_eq_false]
  refine Ev.step (fun k => by simp only [laws_FnExactShrinkingMarks.j0]; rfl) ?_
  simp only [Bool.false_eq_true, if_false]
  refine Ev.bind hm ?_
  refine Ev.bind hh ?_
  simp only [show ¬ ((101 : Int) + (l.length : Int) < 0) by omega, if_false, if_true]
  refine Ev.bind hi ?_
  refine Ev.bind heq ?_
  simp only [if_true, bne_self_eq_false]
  refine Ev.step (fun k => by simp only [laws_FnExactShrinkingMarks.j1]; rfl) ?_
  simp only [Bool.false_eq_true, if_false]
  refine Ev.bind hh ?_
  simp only [show ¬ ((101 : Int) + (l.length : Int) < 0) by omega, if_false, if_true]
  exact Ev.now _

theorem shrink_same (k : Nat) : ∀ (a : Int) (l : List Int) (m g : Int), spec_ShrinkingMarks.l0 k a l m g = impl_ShrinkingMarks.l0 k a l m g := by
  induction k with
  | zero => intro a l m g; simp only [spec_ShrinkingMarks.l0, impl_ShrinkingMarks.l0]
  | succ k ih =>
    intro a l m g
    simp only [spec_ShrinkingMarks.l0, impl_ShrinkingMarks.l0, ih]
    by_cases h : g ≥ 1
    · rw [if_pos h, if_pos (show g > 0 by omega)]
    · rw [if_neg h, if_neg (show ¬ g > 0 by omega)]

theorem shrink_ends (a : Int) (ha : a ≤ 100) (d : Nat) : ∀ (l : List Int) (m g : Int), 0 ≤ m → m ≤ 100 → g = d → g ≤ 1000 → l.length + d ≤ 1000 →
    ∃ r, Ev (fun k => impl_ShrinkingMarks.l0 k a l m g) (r, true) ∧ r.length ≤ 1000 := by
  induction d with
  | zero =>
    intro l m g h0 h1 hd hg hl
    exact ⟨l, Ev.step (f := fun _ => some (l, true)) (fun k => by simp only [impl_ShrinkingMarks.l0]; rw [if_neg (by omega)]) (Ev.now _), by omega⟩
  | succ d ih =>
    intro l m g h0 h1 hd hg hl
    have e1 : wrap64 (m + g) = m + g := wrap64_small (by omega) (by omega)
    have e2 : wrap64 (g - 1) = g - 1 := wrap64_small (by omega) (by omega)
    by_cases h : m + g ≤ a
    · obtain ⟨r, hr, hr2⟩ := ih (l ++ [m + g]) (m + g) (g - 1) (by omega) (by omega) (by omega) (by omega) (by simp; omega)
      exact ⟨r, Ev.step (f := fun k => impl_ShrinkingMarks.l0 k a (l ++ [m + g]) (m + g) (g - 1)) (fun k => by simp only [impl_ShrinkingMarks.l0]; rw [e1, e2, if_pos (by omega), if_pos h, if_pos (by omega)]) hr, hr2⟩
    · exact ⟨l, Ev.step (f := fun _ => some (l, true)) (fun k => by simp only [impl_ShrinkingMarks.l0]; rw [e1, if_pos (by omega), if_neg h]) (Ev.now _), by omega⟩

theorem FnExactShrinkingMarks : laws_FnExactShrinkingMarks.Pure := by
  intro a0 _
  by_cases h : 0 ≤ a0 ∧ a0 ≤ 100
  · have hs := Hand.fewT_spec 2 (by omega) a0 (by omega)
    obtain ⟨r, hr, hl⟩ := shrink_ends a0 h.2 (Hand.fewT 2 a0) [] 0 (Hand.fewT 2 a0) (by omega) (by omega) rfl (by omega) (by simp; omega)
    refine law_of a0 r true (by omega) ?_ ?_
    · refine Ev.congr (f := fun k => (spec_flFew.f k (2 : Nat) a0).bind fun t111 => (spec_ShrinkingMarks.l0 k a0 ([] : List Int) 0 t111)) (fun k => ?_) (Ev.bind (flFew_ev 2 (by omega) (by omega) a0 (by omega)) (Ev.congr (fun k => shrink_same k _ _ _ _) hr))
      unfold spec_ShrinkingMarks.f spec_stFloors.f
      rw [l1In_yes h, Option.bind_some, Option.bind_some, if_pos rfl]; rfl
    · refine Ev.congr (f := fun k => impl_ShrinkingMarks.l0 k a0 ([] : List Int) 0 (Hand.fewT 2 a0)) (fun k => ?_) hr
      unfold impl_ShrinkingMarks.f impl_isMarked.f impl_leastWorst.f
      rw [within_yes h, Option.bind_some, Option.bind_some, if_pos rfl, if_pos (by omega), Option.bind_some]
  · refine law_of a0 [] false (by simp) ?_ ?_
    · refine Ev.congr (f := fun k => some ([], false)) (fun k => ?_) (Ev.now _)
      unfold spec_ShrinkingMarks.f spec_stFloors.f
      rw [l1In_no h, Option.bind_some, Option.bind_some, if_ff]
    · refine Ev.congr (f := fun k => some ([], false)) (fun k => ?_) (Ev.now _)
      unfold impl_ShrinkingMarks.f impl_isMarked.f
      rw [within_no h, Option.bind_some, Option.bind_some, if_ff]

end Go.Proofs.Ytnbimnnocnhggaa.Pure
