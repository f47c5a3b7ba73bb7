/- The program's GoodFloors answers as the reference's does, for every eggs and floors; no conditions. -/
import Derived.Test.YtnbimnnocnhggaaQFnExactGoodFloorsx2
namespace Go.Proofs.Ytnbimnnocnhggaa.Pure
open Go.RowKit Go.Proofs.Ytnbimnnocnhggaa.QFnExactGoodFloors Go.Proofs.YtnbimnnocnhggaaW.PrintWords Go.Proofs.YtnbimnnocnhggaaW.PrintLast
set_option linter.unusedVariables false

theorem wrap64_small {x : Int} (h0 : -9223372036854775808 ≤ x) (h1 : x < 9223372036854775808) : wrap64 x = x := by
  unfold wrap64; omega

theorem rd_set (l : List Int) (i : Nat) (v : Int) (j : Int) (hj : 0 ≤ j) (hi : i < l.length) : rd (l.set i v) j = if j = (i : Int) then v else rd l j := by
  unfold rd
  by_cases h : j = (i : Int)
  · subst h
    simp [hi]
  · rw [if_neg h]
    have : i ≠ j.toNat := by omega
    simp [List.getD_eq_getElem?_getD, this]

theorem l1In_some (a b c : Int) : spec_l1In.f a b c = some (decide (b ≤ a ∧ a ≤ c)) := by
  unfold spec_l1In.f
  by_cases h : a ≥ b
  · rw [if_pos h]; congr 1; rw [Bool.eq_iff_iff]; simp; omega
  · rw [if_neg h]; congr 1; symm; rw [decide_eq_false_iff_not]; omega

theorem l1Least_some (a b : Int) : spec_l1Least.f a b = some (min a b) := by
  unfold spec_l1Least.f
  split <;> (congr 1; omega)

/-- The row for t tests. -/
structure Row (e t : Nat) (x : List Int) : Prop where
  len : x.length = e + 1
  at_ : ∀ j : Int, 0 ≤ j → j ≤ e → rd x j = Hand.reach t j.toNat
/-- Cells above m hold the next row already. -/
structure Mixed (e t m : Nat) (x : List Int) : Prop where
  len : x.length = e + 1
  at_ : ∀ j : Int, 0 ≤ j → j ≤ e → rd x j = if j ≤ m then Hand.reach t j.toNat else Hand.reach (t + 1) j.toNat

theorem row_zero (e : Nat) : Row e 0 (List.replicate (e + 1) 0) := by
  refine ⟨by simp, fun j h0 h1 => ?_⟩
  rw [Hand.reach_zero]
  unfold rd
  simp only [List.getD_eq_getElem?_getD, List.getElem?_replicate]
  split <;> rfl

theorem mixed_start {e t : Nat} {x : List Int} (h : Row e t x) : Mixed e t e x := ⟨h.len, fun j h0 h1 => by rw [if_pos h1]; exact h.at_ j h0 h1⟩
theorem mixed_end {e t : Nat} {x : List Int} (h : Mixed e t 0 x) : Row e (t + 1) x := ⟨h.len, fun j h0 h1 => by
  rw [h.at_ j h0 h1]
  by_cases h2 : j ≤ ((0 : Nat) : Int)
  · obtain rfl : j = 0 := by omega
    rw [if_pos h2]
    show Hand.reach t 0 = Hand.reach (t + 1) 0
    rw [Hand.reach_none, Hand.reach_none]
  · rw [if_neg h2]⟩
theorem mixed_step {e t m : Nat} {x : List Int} (h : Mixed e t (m + 1) x) (hm : m + 1 ≤ e) :
    Mixed e t m (x.set (m + 1) (min (rd x (m : Int) + rd x ((m : Int) + 1) + 1) 1000000001)) := by
  refine ⟨by rw [List.length_set]; exact h.len, fun j h0 h1 => ?_⟩
  rw [rd_set _ _ _ _ h0 (by rw [h.len]; omega)]
  by_cases hj : j = ((m + 1 : Nat) : Int)
  · subst hj
    rw [if_pos rfl, if_neg (by omega), h.at_ (m : Int) (by omega) (by omega), h.at_ ((m : Int) + 1) (by omega) (by omega), if_pos (by omega), if_pos (by omega)]
    rw [show ((m + 1 : Nat) : Int).toNat = m + 1 by omega, show ((m : Int)).toNat = m by omega, show ((m : Int) + 1).toNat = m + 1 by omega]
    rw [Hand.reach]
    omega
  · rw [if_neg hj, h.at_ j h0 h1]
    by_cases h2 : j ≤ ((m + 1 : Nat) : Int)
    · rw [if_pos h2, if_pos (by omega)]
    · rw [if_neg h2, if_neg (by omega)]
theorem mixed_bd {e t m : Nat} {x : List Int} (h : Mixed e t m x) (j : Int) (h0 : 0 ≤ j) (h1 : j ≤ e) : 0 ≤ rd x j ∧ rd x j ≤ 1000000001 := by
  rw [h.at_ j h0 h1]
  split <;> exact Hand.reach_bd _ _

theorem l1In_yes {a b c : Int} (h : b ≤ a ∧ a ≤ c) : spec_l1In.f a b c = some true := by rw [l1In_some, decide_eq_true h]
theorem l1In_no {a b c : Int} (h : ¬ (b ≤ a ∧ a ≤ c)) : spec_l1In.f a b c = some false := by rw [l1In_some, decide_eq_false h]
theorem if_ff {α : Type} (x y : α) : (if false = true then x else y) = y := if_neg (by decide)

theorem flEggs_yes {a : Int} (h : 1 ≤ a ∧ a ≤ 10) : spec_flEggs.f a = some true := by unfold spec_flEggs.f; rw [l1In_yes h, Option.bind_some]
theorem flEggs_no {a : Int} (h : ¬ (1 ≤ a ∧ a ≤ 10)) : spec_flEggs.f a = some false := by unfold spec_flEggs.f; rw [l1In_no h, Option.bind_some]

theorem flFloors_yes {a : Int} (h : 0 ≤ a ∧ a ≤ 1000) : spec_flFloors.f a = some true := by unfold spec_flFloors.f; rw [l1In_yes h, Option.bind_some]
theorem flFloors_no {a : Int} (h : ¬ (0 ≤ a ∧ a ≤ 1000)) : spec_flFloors.f a = some false := by unfold spec_flFloors.f; rw [l1In_no h, Option.bind_some]

theorem flBoth_yes {a b : Int} (h : Hand.House a b) : spec_flBoth.f a b = some true := by
  unfold spec_flBoth.f; rw [flEggs_yes h.1, Option.bind_some, if_pos rfl, flFloors_yes h.2, Option.bind_some]
theorem flBoth_no {a b : Int} (h : ¬ Hand.House a b) : spec_flBoth.f a b = some false := by
  unfold spec_flBoth.f
  by_cases h1 : 1 ≤ a ∧ a ≤ 10
  · rw [flEggs_yes h1, Option.bind_some, if_pos rfl, flFloors_no (fun h2 => h ⟨h1, h2⟩), Option.bind_some]
  · rw [flEggs_no h1, Option.bind_some, if_ff]

theorem inner_reach (e : Nat) (he : e ≤ 10) (a1 x6 : Int) (h6 : 0 ≤ x6) (h6' : x6 < 1000000000) (t m : Nat) : ∀ (x : List Int), Mixed e t m x → m ≤ e →
    ∃ x', Row e (t + 1) x' ∧ ∀ r, Ev (fun k => spec_flReach.l0 k e a1 x' (x6 + 1)) r → Ev (fun k => spec_flReach.l1 k e a1 x x6 m) r := by
  induction m with
  | zero =>
    intro x hx _
    exact ⟨x, mixed_end hx, fun r hr => Ev.step (f := fun k => spec_flReach.l0 k e a1 x (x6 + 1)) (fun k => by simp only [spec_flReach.l1]; rw [if_neg (by omega), wrap64_small (by omega) (by omega)]) hr⟩
  | succ m ih =>
    intro x hx hm
    obtain ⟨x', h1, h2⟩ := ih _ (mixed_step hx hm) (by omega)
    refine ⟨x', h1, fun r hr => Ev.step (f := fun k => spec_flReach.l1 k e a1 (x.set (m + 1) (min (rd x (m : Int) + rd x ((m : Int) + 1) + 1) 1000000001)) x6 m) (fun k => ?_) (h2 r hr)⟩
    have b1 := mixed_bd hx (m : Int) (by omega) (by omega)
    have b2 := mixed_bd hx ((m : Int) + 1) (by omega) (by omega)
    have hl := hx.len
    have e1 : wrap64 (((m + 1 : Nat) : Int) - 1) = m := by rw [wrap64_small (by omega) (by omega)]; omega
    have e2 : ((m + 1 : Nat) : Int) = (m : Int) + 1 := by omega
    simp only [spec_flReach.l1]
    rw [if_pos (by omega), e1, if_pos (by omega), if_pos (by omega), if_pos (by omega), if_pos (by omega), e2, wrap64_small (x := rd x (m : Int) + rd x ((m : Int) + 1)) (by omega) (by omega), wrap64_small (by omega) (by omega), l1Least_some, Option.bind_some,
      show ((m : Int) + 1).toNat = m + 1 by omega]

theorem reach_l0 (e : Nat) (he : e ≤ 10) (T : Nat) (hT : T ≤ 1000) (d : Nat) : ∀ (t : Nat) (x : List Int), Row e t x → t + d = T → Ev (fun k => spec_flReach.l0 k e T x t) (Hand.reach T e) := by
  induction d with
  | zero =>
    intro t x hx ht
    obtain rfl : t = T := by omega
    have hl := hx.len
    refine Ev.step (f := fun _ => some (Hand.reach t e)) (fun k => ?_) (Ev.now _)
    simp only [spec_flReach.l0]
    rw [if_neg (by omega), if_pos (by omega), if_pos (by omega), hx.at_ e (by omega) (by omega), Int.toNat_natCast]
  | succ d ih =>
    intro t x hx ht
    obtain ⟨x', h1, h2⟩ := inner_reach e he T t (by omega) (by omega) t e x (mixed_start hx) (Nat.le_refl _)
    refine Ev.step (f := fun k => spec_flReach.l1 k e T x t e) (fun k => ?_) (h2 _ ?_)
    · simp only [spec_flReach.l0]; rw [if_pos (by omega)]
    · have := ih (t + 1) x' h1 (by omega)
      rw [show ((t + 1 : Nat) : Int) = (t : Int) + 1 by omega] at this
      exact this
theorem flReach_ev (e : Nat) (he : e ≤ 10) (t : Nat) (ht : t ≤ 1000) : Ev (fun k => spec_flReach.f k e t) (Hand.reach t e) := by
  refine Ev.congr (f := fun k => spec_flReach.l0 k e t (List.replicate (e + 1) 0) (0 : Nat)) (fun k => ?_) (reach_l0 e he t ht t 0 _ (row_zero e) (by omega))
  unfold spec_flReach.f
  have e1 : wrap64 ((e : Int) + 1) = (e : Int) + 1 := wrap64_small (by omega) (by omega)
  rw [e1, if_pos (by omega), if_pos (by omega), show ((e : Int) + 1).toNat = e + 1 by omega]; rfl
theorem flReach_neg (e : Nat) (he : e ≤ 10) (t : Int) (ht : t < 0) : Ev (fun k => spec_flReach.f k e t) 0 := by
  refine Ev.congr (f := fun k => spec_flReach.l0 k e t (List.replicate (e + 1) 0) 0) (fun k => ?_) ?_
  · unfold spec_flReach.f
    have e1 : wrap64 ((e : Int) + 1) = (e : Int) + 1 := wrap64_small (by omega) (by omega)
    rw [e1, if_pos (by omega), if_pos (by omega), show ((e : Int) + 1).toNat = e + 1 by omega]
  · refine Ev.step (f := fun _ => some 0) (fun k => ?_) (Ev.now _)
    have hx := row_zero e
    have hl := hx.len
    simp only [spec_flReach.l0]
    rw [if_neg (by omega), if_pos (by omega), if_pos (by omega), hx.at_ e (by omega) (by omega), Hand.reach_zero]

theorem inner_few (e : Nat) (he : e ≤ 10) (a1 x6 : Int) (h6 : 0 ≤ x6) (h6' : x6 < 1000000000) (t m : Nat) : ∀ (x : List Int), Mixed e t m x → m ≤ e →
    ∃ x', Row e (t + 1) x' ∧ ∀ r, Ev (fun k => spec_flFew.l0 k e a1 x' (x6 + 1)) r → Ev (fun k => spec_flFew.l1 k e a1 x x6 m) r := by
  induction m with
  | zero =>
    intro x hx _
    exact ⟨x, mixed_end hx, fun r hr => Ev.step (f := fun k => spec_flFew.l0 k e a1 x (x6 + 1)) (fun k => by simp only [spec_flFew.l1]; rw [if_neg (by omega), wrap64_small (by omega) (by omega)]) hr⟩
  | succ m ih =>
    intro x hx hm
    obtain ⟨x', h1, h2⟩ := ih _ (mixed_step hx hm) (by omega)
    refine ⟨x', h1, fun r hr => Ev.step (f := fun k => spec_flFew.l1 k e a1 (x.set (m + 1) (min (rd x (m : Int) + rd x ((m : Int) + 1) + 1) 1000000001)) x6 m) (fun k => ?_) (h2 r hr)⟩
    have b1 := mixed_bd hx (m : Int) (by omega) (by omega)
    have b2 := mixed_bd hx ((m : Int) + 1) (by omega) (by omega)
    have hl := hx.len
    have e1 : wrap64 (((m + 1 : Nat) : Int) - 1) = m := by rw [wrap64_small (by omega) (by omega)]; omega
    have e2 : ((m + 1 : Nat) : Int) = (m : Int) + 1 := by omega
    simp only [spec_flFew.l1]
    rw [if_pos (by omega), e1, if_pos (by omega), if_pos (by omega), if_pos (by omega), if_pos (by omega), e2, wrap64_small (x := rd x (m : Int) + rd x ((m : Int) + 1)) (by omega) (by omega), wrap64_small (by omega) (by omega), l1Least_some, Option.bind_some,
      show ((m : Int) + 1).toNat = m + 1 by omega]

theorem few_l0 (e : Nat) (he : e ≤ 10) (n : Int) (T : Nat) (hT : T ≤ 1000) (hF : Hand.IsFew e n T) (d : Nat) : ∀ (t : Nat) (x : List Int), Row e t x → t + d = T → Ev (fun k => spec_flFew.l0 k e n x t) T := by
  induction d with
  | zero =>
    intro t x hx ht
    obtain rfl : t = T := by omega
    have hl := hx.len
    have := hF.1
    refine Ev.step (f := fun _ => some (t : Int)) (fun k => ?_) (Ev.now _)
    simp only [spec_flFew.l0]
    rw [if_pos (by omega), if_pos (by omega), hx.at_ e (by omega) (by omega), Int.toNat_natCast, if_neg (by omega)]
  | succ d ih =>
    intro t x hx ht
    have hl := hx.len
    have := hF.2 t (by omega)
    obtain ⟨x', h1, h2⟩ := inner_few e he n t (by omega) (by omega) t e x (mixed_start hx) (Nat.le_refl _)
    refine Ev.step (f := fun k => spec_flFew.l1 k e n x t e) (fun k => ?_) (h2 _ ?_)
    · simp only [spec_flFew.l0]; rw [if_pos (by omega), if_pos (by omega), hx.at_ e (by omega) (by omega), Int.toNat_natCast, if_pos this]
    · have := ih (t + 1) x' h1 (by omega)
      rw [show ((t + 1 : Nat) : Int) = (t : Int) + 1 by omega] at this
      exact this
theorem flFew_ev (e : Nat) (he1 : 1 ≤ e) (he : e ≤ 10) (n : Int) (hn : n ≤ 1000) : Ev (fun k => spec_flFew.f k e n) (Hand.fewT e n) := by
  have hs := Hand.fewT_spec e he1 n hn
  refine Ev.congr (f := fun k => spec_flFew.l0 k e n (List.replicate (e + 1) 0) (0 : Nat)) (fun k => ?_) (few_l0 e he n _ hs.1 hs.2 (Hand.fewT e n) 0 _ (row_zero e) (by omega))
  unfold spec_flFew.f
  have e1 : wrap64 ((e : Int) + 1) = (e : Int) + 1 := wrap64_small (by omega) (by omega)
  rw [e1, if_pos (by omega), if_pos (by omega), show ((e : Int) + 1).toNat = e + 1 by omega]; rfl

theorem flGood_l0 (n b a : Int) (hn : n ≤ 1000) (d : Nat) : ∀ (x : List Int) (f : Int), 1 ≤ f → f ≤ n + 1 → n + 1 - f = d → x.length + d ≤ 1000 → Ev (fun k => spec_flGood.l0 k n b a x f) (x ++ Hand.goodsFrom b a n d f) := by
  induction d with
  | zero =>
    intro x f h1 h2 hd hl
    rw [Hand.goodsFrom, List.append_nil]
    refine Ev.step (f := fun _ => some x) (fun k => ?_) (Ev.now _)
    simp only [spec_flGood.l0]; rw [if_neg (by omega)]
  | succ d ih =>
    intro x f h1 h2 hd hl
    have e1 : wrap64 (f - 1) = f - 1 := wrap64_small (by omega) (by omega)
    have e2 : wrap64 (n - f) = n - f := wrap64_small (by omega) (by omega)
    have e3 : wrap64 (f + 1) = f + 1 := wrap64_small (by omega) (by omega)
    by_cases hb : f - 1 ≤ b
    · by_cases ha : n - f ≤ a
      · have := ih (x ++ [f]) (f + 1) (by omega) (by omega) (by omega) (by simp; omega)
        rw [Hand.goodsFrom, if_pos ⟨hb, ha⟩]
        rw [List.append_assoc] at this
        refine Ev.step (f := fun k => spec_flGood.l0 k n b a (x ++ [f]) (f + 1)) (fun k => ?_) this
        simp only [spec_flGood.l0]; rw [if_pos (by omega), e1, if_pos hb, e2, if_pos ha, if_pos (by omega), e3]
      · rw [Hand.goodsFrom, if_neg (fun h => ha h.2)]
        refine Ev.step (f := fun k => spec_flGood.l0 k n b a x (f + 1)) (fun k => ?_) (ih x (f + 1) (by omega) (by omega) (by omega) (by omega))
        simp only [spec_flGood.l0]; rw [if_pos (by omega), e1, if_pos hb, e2, if_neg ha, e3]
    · rw [Hand.goodsFrom, if_neg (fun h => hb h.1)]
      refine Ev.step (f := fun k => spec_flGood.l0 k n b a x (f + 1)) (fun k => ?_) (ih x (f + 1) (by omega) (by omega) (by omega) (by omega))
      simp only [spec_flGood.l0]; rw [if_pos (by omega), e1, if_neg hb, e3]
theorem flGood_ev (e : Nat) (he1 : 1 ≤ e) (he : e ≤ 10) (n : Int) (hn1 : 1 ≤ n) (hn : n ≤ 1000) :
    Ev (fun k => spec_flGood.f k e n) (Hand.goodsFrom (Hand.reach (Hand.fewT e n - 1) (e - 1)) (Hand.reach (Hand.fewT e n - 1) e) n n.toNat 1) := by
  have hs := Hand.fewT_spec e he1 n hn
  have hp := hs.2.pos hn1
  unfold spec_flGood.f
  refine Ev.bind (flFew_ev e he1 he n hn) ?_
  have e1 : wrap64 ((e : Int) - 1) = ((e - 1 : Nat) : Int) := by rw [wrap64_small (by omega) (by omega)]; omega
  have e2 : wrap64 ((Hand.fewT e n : Int) - 1) = ((Hand.fewT e n - 1 : Nat) : Int) := by rw [wrap64_small (by omega) (by omega)]; omega
  rw [e1, e2]
  refine Ev.bind (flReach_ev (e - 1) (by omega) (Hand.fewT e n - 1) (by omega)) ?_
  refine Ev.bind (flReach_ev e he (Hand.fewT e n - 1) (by omega)) ?_
  exact flGood_l0 n _ _ hn n.toNat [] 1 (by omega) (by omega) (by omega) (by simp; omega)

theorem eqIntS_l0 (l : List Int) (hl : l.length < 1000000000000) (d : Nat) : ∀ (i : Int), 0 ≤ i → i ≤ l.length → (l.length : Int) - i = d → Ev (fun k => laws_eqIntS.l0 k l l i) true := by
  induction d with
  | zero =>
    intro i h0 h1 hd
    exact Ev.step (f := fun _ => some true) (fun k => by simp only [laws_eqIntS.l0]; rw [if_neg (by omega)]) (Ev.now _)
  | succ d ih =>
    intro i h0 h1 hd
    have hlt : i < (l.length : Int) := by omega
    have hw : wrap64 (i + 1) = i + 1 := wrap64_small (by omega) (by omega)
    exact Ev.step (f := fun k => laws_eqIntS.l0 k l l (i + 1)) (fun k => by simp only [laws_eqIntS.l0]; rw [if_pos hlt, if_pos h0, if_pos hlt, if_pos trivial, hw]) (ih (i + 1) (by omega) (by omega) (by omega))

theorem eqIntS_self (l : List Int) (hl : l.length < 1000000000000) : Ev (fun k => laws_eqIntS.f k l l) true :=
  Ev.congr (f := fun k => laws_eqIntS.l0 k l l 0) (fun k => by unfold laws_eqIntS.f; rw [if_pos rfl]) (eqIntS_l0 l hl l.length 0 (by omega) (by omega) (by omega))

theorem markIntS_l0 (n : Nat) (hn : n < 1000000000000) (a : Int) (ha0 : 0 ≤ a) (ha1 : a < 1000000000000) (d : Nat) : ∀ (x : List Int) (i : Int), x.length = n → 0 ≤ i → i ≤ n → (n : Int) - i = d → (∀ j : Int, 0 ≤ j → j < i → rd x j = a + j) →
    ∃ r, Ev (fun k => laws_markIntS.l0 k x (a + i) i) (a + n, r) ∧ r.length = n ∧ ∀ j : Int, 0 ≤ j → j < n → rd r j = a + j := by
  induction d with
  | zero =>
    intro x i hx h0 h1 hd hj
    have hi : i = n := by omega
    subst hi
    exact ⟨x, Ev.step (f := fun _ => some (a + n, x)) (fun k => by simp only [laws_markIntS.l0]; rw [if_neg (by omega)]) (Ev.now _), hx, hj⟩
  | succ d ih =>
    intro x i hx h0 h1 hd hj
    have hlt : i < (x.length : Int) := by omega
    have hw : wrap64 (i + 1) = i + 1 := wrap64_small (by omega) (by omega)
    have hw2 : wrap64 (a + i + 1) = a + (i + 1) := by rw [wrap64_small (by omega) (by omega)]; omega
    obtain ⟨r, hr, hl, hv⟩ := ih (x.set i.toNat (a + i)) (i + 1) (by simp [hx]) (by omega) (by omega) (by omega) (fun j h0j hji => by
      rw [rd_set _ _ _ _ h0j (by omega)]
      by_cases e : j = (i.toNat : Int)
      · rw [if_pos e]; omega
      · rw [if_neg e]; exact hj j h0j (by omega))
    exact ⟨r, Ev.step (f := fun k => laws_markIntS.l0 k (x.set i.toNat (a + i)) (a + (i + 1)) (i + 1)) (fun k => by simp only [laws_markIntS.l0]; rw [if_pos hlt, if_pos h0, hw, hw2]) hr, hl, hv⟩

theorem heldIntS_l0 (r : List Int) (hn : r.length < 1000000000000) (a : Int) (ha0 : 0 ≤ a) (ha1 : a < 1000000000000) (hv : ∀ j : Int, 0 ≤ j → j < r.length → rd r j = a + j) (d : Nat) : ∀ (i : Int), 0 ≤ i → i ≤ r.length → (r.length : Int) - i = d →
    Ev (fun k => laws_heldIntS.l0 k r (a + i) i) (a + r.length) := by
  induction d with
  | zero =>
    intro i h0 h1 hd
    have hi : i = r.length := by omega
    subst hi
    exact Ev.step (f := fun _ => some (a + r.length)) (fun k => by simp only [laws_heldIntS.l0]; rw [if_neg (by omega)]) (Ev.now _)
  | succ d ih =>
    intro i h0 h1 hd
    have hlt : i < (r.length : Int) := by omega
    have hw : wrap64 (i + 1) = i + 1 := wrap64_small (by omega) (by omega)
    have hw2 : wrap64 (a + i + 1) = a + (i + 1) := by rw [wrap64_small (by omega) (by omega)]; omega
    exact Ev.step (f := fun k => laws_heldIntS.l0 k r (a + (i + 1)) (i + 1)) (fun k => by simp only [laws_heldIntS.l0]; rw [if_pos hlt, if_pos h0, if_pos (hv i h0 hlt), hw, hw2]) (ih (i + 1) (by omega) (by omega) (by omega))

theorem mark_held (l : List Int) (hl : l.length < 1000000000) : ∃ r, Ev (fun k => laws_markIntS.f k l 101) (101 + (l.length : Int), r) ∧ Ev (fun k => laws_heldIntS.f k r 101) (101 + (l.length : Int)) ∧ r.length = l.length := by
  obtain ⟨r, h1, h2, h3⟩ := markIntS_l0 l.length (by omega) 101 (by omega) (by omega) l.length l 0 rfl (by omega) (by omega) (by omega) (fun j _ _ => by omega)
  refine ⟨r, h1, ?_, h2⟩
  have := heldIntS_l0 r (by omega) 101 (by omega) (by omega) (fun j h0 h1 => h3 j h0 (by omega)) r.length 0 (by omega) (by omega) (by omega)
  rw [h2] at this
  exact this

theorem law_of (a0 a1 : Int) (l : List Int) (b : Bool) (hl : l.length < 1000000) (hs : Ev (fun k => spec_GoodFloors.f k a0 a1) (l, b)) (hi : Ev (fun k => impl_GoodFloors.f k a0 a1) (l, b)) : ∃ k, laws_FnExactGoodFloors.f k a0 a1 = some true := by
  obtain ⟨r, hm, hh, hrl⟩ := mark_held l (by omega)
  have heq := eqIntS_self l (by omega)
  apply Ev.rounds
  unfold laws_FnExactGoodFloors.f
  refine Ev.bind hs ?_
  refine Ev.bind hi ?_
  refine Ev.bind heq ?_
  refine Ev.congr (fun k => if_pos rfl) ?_
  refine Ev.congr (fun k => if_neg (by simp)) ?_
  refine Ev.bind hm ?_
  refine Ev.bind hh ?_
  refine Ev.congr (fun k => if_neg (by omega)) ?_
  refine Ev.congr (fun k => if_pos rfl) ?_
  refine Ev.bind hi ?_
  refine Ev.bind heq ?_
  refine Ev.congr (fun k => if_pos rfl) ?_
  refine Ev.congr (fun k => if_neg (by simp)) ?_
  refine Ev.bind hh ?_
  refine Ev.congr (fun k => if_neg (by omega)) ?_
  refine Ev.congr (fun k => if_pos rfl) ?_
  exact Ev.now _

theorem FnExactGoodFloors : laws_FnExactGoodFloors.Pure := by
  intro a0 a1 _ _
  by_cases h : Hand.House a0 a1
  · obtain ⟨e, rfl⟩ := Int.eq_ofNat_of_zero_le (show 0 ≤ a0 by have := h.1; omega)
    obtain ⟨n, rfl⟩ := Int.eq_ofNat_of_zero_le (show 0 ≤ a1 from h.2.1)
    have he1 : 1 ≤ e := by have := h.1; omega
    have he : e ≤ 10 := by have := h.1; omega
    have hn : n ≤ 1000 := by have := h.2.2; omega
    have hres : Hand.goodRes (e : Int) (n : Int) = (Hand.goodsFrom (Hand.reach (Hand.fewT e n - 1) (e - 1)) (Hand.reach (Hand.fewT e n - 1) e) n n 1, true) := by
      unfold Hand.goodRes; rw [if_pos h, Int.toNat_natCast, Int.toNat_natCast]
    have hlen := Hand.goods_length (Hand.reach (Hand.fewT e n - 1) (e - 1)) (Hand.reach (Hand.fewT e n - 1) e) n n 1
    refine law_of e n (Hand.goodsFrom (Hand.reach (Hand.fewT e n - 1) (e - 1)) (Hand.reach (Hand.fewT e n - 1) e) n n 1) true (by omega) ?_ ?_
    · refine Ev.congr (f := fun k => (spec_flGood.f k e n).bind fun t => (some (t, true))) (fun k => ?_) (Ev.bind ?_ (Ev.now _))
      · unfold spec_GoodFloors.f
        rw [flBoth_yes h, Option.bind_some, if_pos rfl]
      · by_cases h0 : 1 ≤ n
        · have := flGood_ev e he1 he n (by omega) (by omega)
          rw [Int.toNat_natCast] at this
          exact this
        · obtain rfl : n = 0 := by omega
          have hs := Hand.fewT_spec e he1 0 (by omega)
          have ht : Hand.fewT e 0 = 0 := by
            rcases Nat.eq_zero_or_pos (Hand.fewT e 0) with h1 | h1
            · exact h1
            · have := hs.2.2 0 h1; rw [Hand.reach_zero] at this; omega
          have hf := flFew_ev e he1 he 0 (by omega)
          rw [ht] at hf
          unfold spec_flGood.f
          refine Ev.bind hf ?_
          have e1 : wrap64 ((e : Int) - 1) = ((e - 1 : Nat) : Int) := by rw [wrap64_small (by omega) (by omega)]; omega
          have e2 : wrap64 (((0 : Nat) : Int) - 1) = -1 := by rw [wrap64_small (by omega) (by omega)]; rfl
          rw [e1, e2]
          refine Ev.bind (flReach_neg (e - 1) (by omega) (-1) (by omega)) ?_
          refine Ev.bind (flReach_neg e he (-1) (by omega)) ?_
          refine Ev.step (f := fun _ => some []) (fun k => ?_) (Ev.now _)
          simp only [spec_flGood.l0]; exact if_neg (by omega)
    · exact Ev.congr (f := fun _ => some (Hand.goodsFrom (Hand.reach (Hand.fewT e n - 1) (e - 1)) (Hand.reach (Hand.fewT e n - 1) e) n n 1, true)) (fun k => by unfold impl_GoodFloors.f; rw [← hres]) (Ev.now _)
  · refine law_of a0 a1 [] false (by simp) ?_ ?_
    · refine Ev.congr (f := fun k => some ([], false)) (fun k => ?_) (Ev.now _)
      unfold spec_GoodFloors.f
      rw [flBoth_no h, Option.bind_some, if_ff]
    · exact Ev.congr (f := fun _ => some ([], false)) (fun k => by unfold impl_GoodFloors.f Hand.goodRes; rw [if_neg h]) (Ev.now _)

end Go.Proofs.Ytnbimnnocnhggaa.Pure
