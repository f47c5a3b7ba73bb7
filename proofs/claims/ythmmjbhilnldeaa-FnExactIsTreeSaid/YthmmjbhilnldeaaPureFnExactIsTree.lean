/- The program's IsTree answers as the reference's does, and leaves the row that it is given alone, for every list; no conditions. -/
import Derived.Test.YthmmjbhilnldeaaQFnExactIsTreex3
namespace Go.Proofs.Ythmmjbhilnldeaa.Pure
open Go.RowKit Go.Proofs.Ythmmjbhilnldeaa.QFnExactIsTree Go.Proofs.YthmmjbhilnldeaaW.PrintWords Go.Proofs.YthmmjbhilnldeaaW.PrintLast
set_option linter.unusedVariables false

theorem wrap64_small {x : Int} (h0 : -9223372036854775808 ≤ x) (h1 : x < 9223372036854775808) : wrap64 x = x := by
  unfold wrap64; omega
theorem l1In_some (a b c : Int) : spec_l1In.f a b c = some (decide (b ≤ a ∧ a ≤ c)) := by
  unfold spec_l1In.f
  by_cases h : a ≥ b
  · rw [if_pos h]; congr 1; rw [Bool.eq_iff_iff]; simp; omega
  · rw [if_neg h]; congr 1; symm; rw [decide_eq_false_iff_not]; omega
theorem l1In_yes {a b c : Int} (h : b ≤ a ∧ a ≤ c) : spec_l1In.f a b c = some true := by rw [l1In_some, decide_eq_true h]
theorem l1In_no {a b c : Int} (h : ¬ (b ≤ a ∧ a ≤ c)) : spec_l1In.f a b c = some false := by rw [l1In_some, decide_eq_false h]
theorem if_ff {α : Type} (x y : α) : (if false = true then x else y) = y := if_neg (by decide)

theorem within_some (a b c : Int) : impl_within.f a b c = some (decide (b ≤ a ∧ a ≤ c)) := by
  unfold impl_within.f
  by_cases h : a ≥ b
  · rw [if_pos h]; congr 1; rw [Bool.eq_iff_iff]; simp; omega
  · rw [if_neg h]; congr 1; symm; rw [decide_eq_false_iff_not]; omega
theorem within_yes {a b c : Int} (h : b ≤ a ∧ a ≤ c) : impl_within.f a b c = some true := by rw [within_some, decide_eq_true h]
theorem within_no {a b c : Int} (h : ¬ (b ≤ a ∧ a ≤ c)) : impl_within.f a b c = some false := by rw [within_some, decide_eq_false h]

theorem rd_drop (l : List Int) (n : Nat) (j : Int) (h : 0 ≤ j) : rd (l.drop n) j = rd l ((n : Int) + j) := by
  unfold rd
  obtain ⟨m, rfl⟩ := Int.eq_ofNat_of_zero_le h
  rw [Int.toNat_natCast, show ((n : Int) + (m : Int)).toNat = n + m by omega]
  simp [List.getD_eq_getElem?_getD, List.getElem?_drop]
theorem rd_take (l : List Int) (n : Nat) (j : Int) (h : 0 ≤ j) (h1 : j < n) : rd (l.take n) j = rd l j := by
  unfold rd
  obtain ⟨m, rfl⟩ := Int.eq_ofNat_of_zero_le h
  rw [Int.toNat_natCast]
  simp [List.getD_eq_getElem?_getD, show m < n by omega]
/-- The part of a list from a place on. -/
def seg (l : List Int) (at_ n : Nat) : List Int := (l.drop at_).take n
theorem seg_len (l : List Int) (at_ n : Nat) (h : at_ + n ≤ l.length) : (seg l at_ n).length = n := by unfold seg; rw [List.length_take, List.length_drop]; omega
theorem seg_head (l : List Int) (at_ n : Nat) (h : 0 < n) : rd (seg l at_ n) 0 = rd l at_ := by
  unfold seg; rw [rd_take _ _ _ (by omega) (by omega), rd_drop _ _ _ (by omega)]; congr 1
theorem seg_low (l : List Int) (at_ n m : Nat) (h : m + 1 ≤ n) : ((seg l at_ n).take (1 + m)).drop 1 = seg l (at_ + 1) m := by
  unfold seg
  rw [List.take_take, Nat.min_eq_left (by omega), List.drop_take, List.drop_drop]
  congr 1; omega
theorem seg_high (l : List Int) (at_ n m : Nat) (h : m + 1 ≤ n) : (seg l at_ n).drop (1 + m) = seg l (at_ + 1 + m) (n - 1 - m) := by
  unfold seg
  rw [List.drop_take, List.drop_drop, show n - (1 + m) = n - 1 - m by omega, show at_ + (1 + m) = at_ + 1 + m by omega]
theorem tree_wraps (low : Int) (at_ m p : Nat) (h1 : 1 ≤ low) (h2 : low + m ≤ 2000) (hp : p + 1 ≤ m) (h3 : at_ ≤ 1000) :
    wrap64 (low + (m : Int)) = low + m ∧ wrap64 (low + (m : Int) - 1) = low + m - 1 ∧ wrap64 (low + (p : Int) - low) = p ∧ wrap64 (1 + (p : Int)) = ((1 + p : Nat) : Int) ∧ wrap64 (low + (p : Int) + 1) = low + p + 1 ∧ wrap64 (low + (p : Int) - 1) = low + p - 1 ∧ wrap64 ((at_ : Int) + 1) = ((at_ + 1 : Nat) : Int) := by
  refine ⟨wrap64_small (by omega) (by omega), wrap64_small (by omega) (by omega), (wrap64_small (by omega) (by omega)).trans (by omega), (wrap64_small (by omega) (by omega)).trans (by omega), wrap64_small (by omega) (by omega), wrap64_small (by omega) (by omega), (wrap64_small (by omega) (by omega)).trans (by omega)⟩
theorem tree_both (l : List Int) (hl : l.length ≤ 1000) (n : Nat) : ∀ (m at_ : Nat) (low : Int), m ≤ n → at_ + m ≤ l.length → 1 ≤ low → low + m ≤ 2000 →
    ∃ g : Bool, Ev (fun k => spec_trGood.f k (seg l at_ m) low) g ∧ Ev (fun k => impl_treeEnd.f k l at_ low (low + m - 1)) (if g = true then ((at_ + m : Nat) : Int) else -1) := by
  induction n with
  | zero =>
    intro m at_ low hm ha h1 h2
    obtain rfl : m = 0 := by omega
    refine ⟨true, Ev.step (f := fun _ => some true) (fun k => ?_) (Ev.now _), ?_⟩
    · simp only [spec_trGood.f]; rw [if_pos (by rw [seg_len _ _ _ ha]; rfl)]
    · rw [if_pos rfl]
      refine Ev.step (f := fun _ => some (at_ : Int)) (fun k => ?_) (Ev.now _)
      simp only [impl_treeEnd.f]; rw [if_pos (by omega)]
  | succ n ih =>
    intro m at_ low hm ha h1 h2
    by_cases hm0 : m = 0
    · exact ih m at_ low (by omega) ha h1 h2
    · have hlen := seg_len l at_ m ha
      have hhead := seg_head l at_ m (by omega)
      have E0 := Aside0.mk (tree_wraps low at_ m 0 h1 h2 (by omega) (by omega))
      by_cases hw : low ≤ rd l at_ ∧ rd l at_ ≤ low + m - 1
      · obtain ⟨p, hp⟩ : ∃ p : Nat, rd l at_ = low + p := ⟨(rd l at_ - low).toNat, by omega⟩
        have hpm : p + 1 ≤ m := by omega
        have E := Aside0.mk (tree_wraps low at_ m p h1 h2 hpm (by omega))
        obtain ⟨g1, a1, b1⟩ := ih p (at_ + 1) low (by omega) (by omega) h1 (by omega)
        have spec_step : ∀ k, spec_trGood.f (k + 1) (seg l at_ m) low = (spec_trGood.f k (seg l (at_ + 1) p) low).bind fun t => (if t = true then ((spec_trGood.f k (seg l (at_ + 1 + p) (m - 1 - p)) (low + p + 1)).bind fun t => (some t)) else (some false)) := by
          intro k
          simp only [spec_trGood.f]
          unfold spec_trSplit.f
          rw [if_neg (by omega), if_pos (by omega), hhead, hlen, E.out.1, E.out.2.1, l1In_yes hw, Option.bind_some, if_pos rfl, if_pos (by omega), Option.bind_some, hp, E.out.2.2.1, E.out.2.2.2.1, if_pos (by omega), if_pos (by omega), Int.toNat_natCast, seg_low _ _ _ _ hpm, seg_high _ _ _ _ hpm, E.out.2.2.2.2.1]
          congr 1 <;> (funext t; rw [if_pos (show (0 : Int) ≤ ((1 + p : Nat) : Int) by omega)])
        have impl_step : ∀ k, impl_treeEnd.f (k + 1 + 1) l at_ low (low + m - 1) = (impl_treeEnd.f k l ((at_ + 1 : Nat) : Int) low (low + p - 1)).bind fun t => (if t < 0 then (some (-1)) else ((impl_treeEnd.f k l t (low + p + 1) (low + m - 1)).bind fun t => (some t))) := by
          intro k
          rw [impl_treeEnd.f, if_neg (by omega), if_neg (by omega), if_neg (by omega), if_pos (by omega), if_pos (by omega), within_yes hw, Option.bind_some]
          simp only [Bool.not_true, impl_treeEnd.j0]
          rw [if_ff, if_pos (by omega), if_pos (by omega), hp, E.out.2.2.2.2.1, E.out.2.2.2.2.2.1, E.out.2.2.2.2.2.2]
        cases g1 with
        | false =>
          refine ⟨false, Ev.step spec_step (Ev.bind a1 (Ev.congr (fun k => if_ff _ _) (Ev.now _))), ?_⟩
          rw [if_ff]
          rw [if_ff] at b1
          refine Ev.step (f := fun k => impl_treeEnd.f (k + 1) l at_ low (low + m - 1)) (fun k => rfl) (Ev.step impl_step (Ev.bind b1 (Ev.congr (fun k => if_pos (by omega)) (Ev.now _))))
        | true =>
          obtain ⟨g2, a2, b2⟩ := ih (m - 1 - p) (at_ + 1 + p) (low + p + 1) (by omega) (by omega) (by omega) (by omega)
          rw [if_pos rfl] at b1
          rw [show low + (p : Int) + 1 + ((m - 1 - p : Nat) : Int) - 1 = low + m - 1 by omega, show at_ + 1 + p + (m - 1 - p) = at_ + m by omega] at b2
          refine ⟨g2, Ev.step spec_step (Ev.bind a1 (Ev.congr (fun k => if_pos rfl) (Ev.bind (f := fun _ t => some t) a2 (Ev.now _)))), ?_⟩
          refine Ev.step (f := fun k => impl_treeEnd.f (k + 1) l at_ low (low + m - 1)) (fun k => rfl) (Ev.step impl_step (Ev.bind b1 (Ev.congr (fun k => if_neg (by omega)) (Ev.bind (f := fun _ t => some t) b2 (Ev.now _)))))
      · refine ⟨false, Ev.step (f := fun _ => some false) (fun k => ?_) (Ev.now _), ?_⟩
        · simp only [spec_trGood.f]
          rw [if_neg (by omega), if_pos (by omega), hhead, hlen, E0.out.1, E0.out.2.1, l1In_no hw, Option.bind_some, if_ff]
        · rw [if_ff]
          refine Ev.step (f := fun k => impl_treeEnd.j0 k l at_ low (low + m - 1) true) (fun k => ?_) (Ev.step (f := fun _ => some (-1)) (fun k => ?_) (Ev.now _))
          · rw [impl_treeEnd.f, if_neg (by omega), if_neg (by omega), if_neg (by omega), if_pos (by omega), if_pos (by omega), within_no hw, Option.bind_some]; rfl
          · simp only [impl_treeEnd.j0]; rw [if_pos trivial]
theorem isTree_both (l : List Int) : ∃ g : Bool, Ev (fun k => spec_trIs.f k l) g ∧ Ev (fun k => impl_IsTree.f k l) g := by
  by_cases h : (l.length : Int) ≤ 30
  · obtain ⟨g, h1, h2⟩ := tree_both l (by omega) l.length l.length 0 1 (Nat.le_refl _) (by omega) (by omega) (by omega)
    have es : seg l 0 l.length = l := by unfold seg; rw [List.drop_zero, List.take_length]
    rw [es] at h1
    rw [show (1 : Int) + (l.length : Int) - 1 = l.length by omega, Nat.zero_add] at h2
    refine ⟨g, Ev.congr (f := fun k => (spec_trGood.f k l 1).bind fun t => (some t)) (fun k => ?_) (Ev.bind (f := fun _ t => some t) h1 (Ev.now _)), Ev.congr (f := fun k => (impl_treeEnd.f k l 0 1 (l.length : Int)).bind fun t => (some (t == (l.length : Int)))) (fun k => ?_) (Ev.bind h2 ?_)⟩
    · unfold spec_trIs.f; rw [if_pos h]
    · unfold impl_IsTree.f; rw [if_pos h]
    · cases g with
      | true => rw [if_pos rfl]; exact Ev.congr (f := fun _ => some true) (fun k => by simp) (Ev.now _)
      | false => rw [if_ff]; exact Ev.congr (f := fun _ => some false) (fun k => by congr 1 <;> (rw [beq_eq_false_iff_ne]; omega)) (Ev.now _)
  · refine ⟨false, Ev.congr (f := fun _ => some false) (fun k => ?_) (Ev.now _), Ev.congr (f := fun _ => some false) (fun k => ?_) (Ev.now _)⟩
    · unfold spec_trIs.f; rw [if_neg h]
    · unfold impl_IsTree.f; rw [if_neg h]
theorem FnExactIsTree : laws_FnExactIsTree.Pure := by
  intro l0 _ _ _
  apply Ev.rounds
  unfold laws_FnExactIsTree.f
  by_cases h : (l0.length : Int) > 1000000
  · exact Ev.congr (fun k => if_pos h) (Ev.now _)
  · refine Ev.congr (fun k => if_neg h) ?_
    obtain ⟨r, hs, hi⟩ := isTree_both l0
    have ht := laws_toIntS.ev l0 (by omega)
    have hs' : Ev (fun k => spec_IsTree.f k l0) r := by unfold spec_IsTree.f; exact Ev.bind (f := fun _ t => some t) hs (Ev.now _)
    have hx : Ev (fun k => laws_intactIntS.f k l0 l0) true := eqIntS_same l0 (by omega)
    refine Ev.bind (ht false) ?_
    refine Ev.bind hs' ?_
    refine Ev.bind (ht false) ?_
    refine Ev.bind hi ?_
    refine Ev.congr (fun k => if_neg (by simp)) ?_
    refine Ev.bind (ht false) ?_
    refine Ev.bind hx ?_
    refine Ev.congr (fun k => if_pos rfl) ?_
    refine Ev.bind (ht true) ?_
    refine Ev.bind hi ?_
    exact Ev.congr (fun k => if_neg (by simp)) (Ev.now _)

end Go.Proofs.Ythmmjbhilnldeaa.Pure
