/- The program's FirstRound answers as the reference's does, in memory of its own, for every three numbers; no conditions. -/
import Derived.Test.YtnolocmcjcjjcaaQFnExactFirstRoundx4
namespace Go.Proofs.Ytnolocmcjcjjcaa.Pure
open Go.RowKit Go.Proofs.Ytnolocmcjcjjcaa.QFnExactFirstRound Go.Proofs.YtnolocmcjcjjcaaW.PrintWords Go.Proofs.YtnolocmcjcjjcaaW.PrintLast
set_option linter.unusedVariables false

theorem wrap64_small {x : Int} (h0 : -9223372036854775808 ≤ x) (h1 : x < 9223372036854775808) : wrap64 x = x := by
  unfold wrap64; omega
theorem l1In_some (a b c : Int) : spec_l1In.f a b c = some (decide (b ≤ a ∧ a ≤ c)) := by
  unfold spec_l1In.f
  by_cases h : a ≥ b
  · rw [if_pos h]; congr 1; rw [Bool.eq_iff_iff]; simp; omega
  · rw [if_neg h]; congr 1; symm; rw [decide_eq_false_iff_not]; omega
theorem l1In_yes {a b c : Int} (h : b ≤ a ∧ a ≤ c) : spec_l1In.f a b c = some true := by rw [l1In_some, decide_eq_true h]
theorem l1In_no {a b c : Int} (h : ¬ (b ≤ a ∧ a ≤ c)) : spec_l1In.f a b c = some false := by rw [l1In_some, decide_eq_false h]
theorem if_ff {α : Type} (x y : α) : (if false = true then x else y) = y := if_neg (by decide)

theorem inn_dec (a b c : Int) : Hand.inn a b c = decide (b ≤ a ∧ a ≤ c) := by unfold Hand.inn; rw [Bool.decide_and]
theorem inn_some (a b c : Int) : spec_l1In.f a b c = some (Hand.inn a b c) := by rw [l1In_some, inn_dec]
theorem rd_nat (l : List Int) (i : Nat) (h : i < l.length) : rd l (i : Int) = l[i] := by unfold rd; simp [h]

theorem rd_set (l : List Int) (i : Nat) (v : Int) (j : Int) (hj : 0 ≤ j) (hi : i < l.length) : rd (l.set i v) j = if j = (i : Int) then v else rd l j := by
  unfold rd
  by_cases h : j = (i : Int)
  · subst h
    simp [hi]
  · rw [if_neg h]
    have : i ≠ j.toNat := by omega
    simp [List.getD_eq_getElem?_getD, this]

theorem set_at {α : Type} (a : List α) (i : Nat) (hi : a.length = i) (z v : α) (rest : List α) : (a ++ z :: rest).set i v = a ++ v :: rest := by
  subst hi
  rw [List.set_append_right _ _ (Nat.le_refl _), Nat.sub_self, List.set_cons_zero]
def row (h t E : Nat) : List Int := (List.range (E + 1)).map fun e => Hand.rr h t e
theorem row_len (h t E : Nat) : (row h t E).length = E + 1 := by unfold row; simp
theorem row_rd (h t E e : Nat) (he : e ≤ E) : rd (row h t E) (e : Int) = Hand.rr h t e := by
  rw [rd_nat _ _ (by rw [row_len]; omega)]; unfold row; simp
theorem row_zero (h E : Nat) : row h 0 E = List.replicate (E + 1) 0 := by
  unfold row
  rw [List.eq_replicate_iff]
  refine ⟨by simp, fun b hb => ?_⟩
  obtain ⟨e, _, rfl⟩ := List.mem_map.mp hb
  rfl
theorem least_min (a : Int) : spec_l1Least.f a 1000000000 = some (min a 1000000000) := by
  unfold spec_l1Least.f
  by_cases h : a < 1000000000
  · rw [if_pos h]; congr 1; omega
  · rw [if_neg h]; congr 1; omega
theorem least_nat (a b : Nat) : spec_l1Least.f (a : Int) (b : Int) = some ((min a b : Nat) : Int) := by
  unfold spec_l1Least.f
  by_cases h : (a : Int) < (b : Int)
  · rw [if_pos h]; congr 1; omega
  · rw [if_neg h]; congr 1; omega
theorem roMore_l1 (h t E i own : Nat) (hE : E ≤ 10) (hi : i ≤ E) (ho : own ≤ i) (X : List Int) (hX : X.length = E + 1) (r : List Int)
    (hr : Ev (fun k => spec_roMore.l0 k (row h t E) (h : Int) (X.set i (min (Hand.cov (Hand.rr h t) i own) 1000000000)) ((i + 1 : Nat) : Int)) r) (d : Nat) :
    ∀ j : Nat, j + d = own + 1 → Ev (fun k => spec_roMore.l1 k (row h t E) (h : Int) X (i : Int) (own : Int) ((own : Int) + Hand.sumD (fun j => Hand.rr h t (i - j)) j) (j : Int)) r := by
  induction d with
  | zero =>
    intro j hj
    obtain rfl : j = own + 1 := by omega
    refine Ev.step (fun k => ?_) hr
    simp only [spec_roMore.l1]
    rw [if_neg (by omega), least_min, Option.bind_some, if_pos (by omega), if_pos (by omega), Int.toNat_natCast, wrap64_small (by omega) (by omega)]
    rfl
  | succ d ih =>
    intro j hj
    have HW := Aside0.mk (show wrap64 ((i : Int) - (j : Int)) = ((i - j : Nat) : Int) ∧ wrap64 ((j : Int) + 1) = ((j + 1 : Nat) : Int) ∧ wrap64 ((own : Int) + Hand.sumD (fun j => Hand.rr h t (i - j)) j + Hand.rr h t (i - j)) = (own : Int) + Hand.sumD (fun j => Hand.rr h t (i - j)) (j + 1) by
      have h1 := Hand.sumD_bd (fun j => Hand.rr h t (i - j)) (fun j => Hand.rr_bd h t (i - j)) j
      have h2 := Hand.rr_bd h t (i - j)
      refine ⟨(wrap64_small (by omega) (by omega)).trans (by omega), (wrap64_small (by omega) (by omega)).trans (by omega), ?_⟩
      simp only [Hand.sumD]
      exact (wrap64_small (by omega) (by omega)).trans (by omega))
    refine Ev.step (fun k => ?_) (ih (j + 1) (by omega))
    simp only [spec_roMore.l1]
    rw [if_pos (by omega), HW.out.1, if_pos (by omega), if_pos (by rw [row_len]; omega), row_rd h t E (i - j) (by omega), HW.out.2.1, HW.out.2.2]
theorem roMore_l0 (h t E : Nat) (hE : E ≤ 10) (d : Nat) : ∀ i : Nat, 1 ≤ i → i + d = E + 1 →
    Ev (fun k => spec_roMore.l0 k (row h t E) (h : Int) (((List.range i).map fun e => Hand.rr h (t + 1) e) ++ List.replicate d 0) (i : Int)) (row h (t + 1) E) := by
  induction d with
  | zero =>
    intro i h1 hi
    obtain rfl : i = E + 1 := by omega
    refine Ev.step (f := fun _ => some (row h (t + 1) E)) (fun k => ?_) (Ev.now _)
    simp only [spec_roMore.l0]
    rw [if_neg (by rw [row_len]; omega), List.replicate_zero, List.append_nil]
    rfl
  | succ d ih =>
    intro i h1 hi
    have hnext := ih (i + 1) (by omega) (by omega)
    have hset : (((List.range i).map fun e => Hand.rr h (t + 1) e) ++ List.replicate (d + 1) 0).set i (min (Hand.cov (Hand.rr h t) i (min i h)) 1000000000) = ((List.range (i + 1)).map fun e => Hand.rr h (t + 1) e) ++ List.replicate d 0 := by
      rw [List.replicate_succ, set_at _ i (by simp), List.range_succ, List.map_append, List.append_assoc]
      congr 1
      show _ = (Hand.rr h (t + 1) i) :: List.replicate d 0
      congr 1
      simp only [Hand.rr]
      rw [if_neg (by omega), Nat.min_comm h i]
      omega
    have hin := roMore_l1 h t E i (min i h) hE (by omega) (by omega) (((List.range i).map fun e => Hand.rr h (t + 1) e) ++ List.replicate (d + 1) 0) (by simp; omega) (row h (t + 1) E) (by rw [hset]; exact hnext) (min i h + 1) 0 (by omega)
    refine Ev.step (fun k => ?_) hin
    simp only [spec_roMore.l0]
    rw [if_pos (by rw [row_len]; omega), least_nat, Option.bind_some]
    simp only [Hand.sumD, Int.add_zero]
    rfl
theorem roMore_ev (h t E : Nat) (hE : E ≤ 10) : Ev (fun k => spec_roMore.f k (row h t E) (h : Int)) (row h (t + 1) E) := by
  have h0 := roMore_l0 h t E hE E 1 (by omega) (by omega)
  refine Ev.congr (fun k => ?_) h0
  unfold spec_roMore.f
  rw [row_len, if_pos (by omega), Int.toNat_natCast, if_pos (by omega)]
  congr 1

theorem sumD_first (f : Nat → Int) (hf : ∀ j, 0 ≤ f j) : ∀ k, f 0 ≤ Hand.sumD f (k + 1)
  | 0 => by simp [Hand.sumD]
  | k + 1 => by have := sumD_first f hf k; have := hf (k + 1); simp only [Hand.sumD] at *; omega
theorem rr_ge (h e : Nat) (hh : 1 ≤ h) (he : 1 ≤ e) : ∀ t : Nat, t ≤ 1000 → (t : Int) ≤ Hand.rr h t e
  | 0, _ => by simp [Hand.rr]
  | t + 1, ht => by
    have h1 := rr_ge h e hh he t (by omega)
    have h2 := sumD_first (fun j => Hand.rr h t (e - j)) (fun j => (Hand.rr_bd h t (e - j)).1) (min h e)
    simp only [Nat.sub_zero] at h2
    simp only [Hand.rr]
    rw [if_neg (by omega)]
    unfold Hand.cov
    omega
theorem roFew_go (h e : Nat) (f : Int) (hh : 1 ≤ h) (he : 1 ≤ e) (hE : e ≤ 10) (hf : f ≤ 1000) (d : Nat) : ∀ t : Nat, t + d = 1000 →
    Ev (fun k => spec_roFew.l0 k (e : Int) (h : Int) f (row h t e) (t : Int)) ((Hand.firstT (fun t => decide (Hand.rr h t e ≥ f)) 1000 (d + 1) t : Nat) : Int) := by
  induction d with
  | zero =>
    intro t ht
    have hge := rr_ge h e hh he t (by omega)
    have hp : decide (Hand.rr h t e ≥ f) = true := decide_eq_true (by omega)
    simp only [Hand.firstT]
    rw [if_pos hp]
    refine Ev.step (f := fun _ => some (t : Int)) (fun k => ?_) (Ev.now _)
    simp only [spec_roFew.l0]
    rw [if_pos (by omega), if_pos (by rw [row_len]; omega), row_rd h t e e (Nat.le_refl _), if_neg (by omega)]
  | succ d ih =>
    intro t ht
    rw [show Hand.firstT (fun t => decide (Hand.rr h t e ≥ f)) 1000 (d + 1 + 1) t = if decide (Hand.rr h t e ≥ f) then t else Hand.firstT (fun t => decide (Hand.rr h t e ≥ f)) 1000 (d + 1) (t + 1) from rfl]
    by_cases c : Hand.rr h t e ≥ f
    · rw [if_pos (decide_eq_true c)]
      refine Ev.step (f := fun _ => some (t : Int)) (fun k => ?_) (Ev.now _)
      simp only [spec_roFew.l0]
      rw [if_pos (by omega), if_pos (by rw [row_len]; omega), row_rd h t e e (Nat.le_refl _), if_neg (by omega)]
    · rw [if_neg (by simpa using c)]
      refine Ev.step (f := fun k => (spec_roMore.f k (row h t e) (h : Int)).bind fun x => (spec_roFew.l0 k (e : Int) (h : Int) f x ((t + 1 : Nat) : Int))) (fun k => ?_) (Ev.bind (roMore_ev h t e hE) (ih (t + 1) (by omega)))
      simp only [spec_roFew.l0]
      rw [if_pos (by omega), if_pos (by rw [row_len]; omega), row_rd h t e e (Nat.le_refl _), if_pos (by omega), wrap64_small (by omega) (by omega)]
      rfl
theorem roFew_ev (h e : Nat) (f : Int) (hh : 1 ≤ h) (he : 1 ≤ e) (hE : e ≤ 10) (hf : f ≤ 1000) : Ev (fun k => spec_roFew.f k (e : Int) (h : Int) f) ((Hand.fewR h e f : Nat) : Int) := by
  have h1 := roFew_go h e f hh he hE hf 1000 0 (by omega)
  refine Ev.congr (fun k => ?_) h1
  unfold spec_roFew.f
  rw [wrap64_small (by omega) (by omega), if_pos (by omega), show ((e : Int) + 1).toNat = e + 1 by omega, if_pos (by omega), row_zero]
  rfl
theorem house_nat {e h f : Int} (hc : Hand.house e h f = true) : ∃ e' h' f' : Nat, e = e' ∧ h = h' ∧ f = f' ∧ 1 ≤ e' ∧ e' ≤ 10 ∧ 1 ≤ h' ∧ h' ≤ 10 ∧ f' ≤ 1000 := by
  unfold Hand.house at hc
  rw [Bool.and_eq_true, Bool.and_eq_true] at hc
  obtain ⟨e, rfl, _, _⟩ := Hand.inn_nat hc.1 (by omega)
  obtain ⟨h, rfl, _, _⟩ := Hand.inn_nat hc.2.1 (by omega)
  obtain ⟨f, rfl, _, _⟩ := Hand.inn_nat hc.2.2 (by omega)
  exact ⟨e, h, f, rfl, rfl, rfl, by omega, by omega, by omega, by omega, by omega⟩

theorem roFloors_some (e h f : Int) : spec_roFloors.f e h f = some (Hand.house e h f) := by
  unfold spec_roFloors.f spec_roSize.f spec_flEggs.f Hand.house
  rw [inn_some, inn_some, inn_some]
  cases Hand.inn e 1 10 <;> cases Hand.inn h 1 10 <;> simp

theorem roReach_l0 (h E : Nat) (hE : E ≤ 10) (d : Nat) : ∀ s : Nat, Ev (fun k => spec_roReach.l0 k (h : Int) (d : Int) (row h s E)) (row h (s + d) E) ∨ d > 1000 := by
  induction d with
  | zero =>
    intro s
    left
    refine Ev.step (f := fun _ => some (row h s E)) (fun k => ?_) (Ev.now _)
    simp only [spec_roReach.l0]
    rw [if_neg (by omega)]
  | succ d ih =>
    intro s
    by_cases hd : d + 1 > 1000
    · exact .inr hd
    · left
      rcases ih (s + 1) with h1 | h1
      · rw [show s + (d + 1) = s + 1 + d by omega]
        refine Ev.step (f := fun k => (spec_roMore.f k (row h s E) (h : Int)).bind fun t => (spec_roReach.l0 k (h : Int) (d : Int) t)) (fun k => ?_) (Ev.bind (roMore_ev h s E hE) h1)
        simp only [spec_roReach.l0]
        rw [if_pos (by omega), wrap64_small (by omega) (by omega), show (((d + 1 : Nat) : Int) - 1) = (d : Int) by omega]
      · omega
theorem roReach_ev (h t E : Nat) (hE : E ≤ 10) (ht : t ≤ 1000) : Ev (fun k => spec_roReach.f k (E : Int) (h : Int) (t : Int)) (row h t E) := by
  rcases roReach_l0 h E hE t 0 with h1 | h1
  · rw [Nat.zero_add] at h1
    refine Ev.congr (fun k => ?_) h1
    unfold spec_roReach.f
    rw [wrap64_small (by omega) (by omega), if_pos (by omega), show ((E : Int) + 1).toNat = E + 1 by omega, if_pos (by omega), row_zero]
  · omega

theorem sumD_eq (f : Nat → Int) : ∀ k, Fr.sumD f k = Hand.sumD f k
  | 0 => rfl
  | k + 1 => by simp only [Fr.sumD, Hand.sumD]; rw [sumD_eq f k]
theorem rr_eq (h : Nat) : ∀ t e, Fr.rr h t e = Hand.rr h t e
  | 0, _ => rfl
  | t + 1, e => by
    simp only [Fr.rr, Hand.rr]
    unfold Fr.cov Hand.cov
    rw [sumD_eq]
    have : (fun j => Fr.rr h t (e - j)) = (fun j => Hand.rr h t (e - j)) := funext fun j => rr_eq h t (e - j)
    rw [this]
theorem firstT_eq (p : Nat → Bool) (z : Nat) : ∀ k t, Fr.firstT p z k t = Hand.firstT p z k t
  | 0, _ => rfl
  | k + 1, t => by simp only [Fr.firstT, Hand.firstT]; rw [firstT_eq p z k (t + 1)]
theorem fewR_eq (h e : Nat) (f : Int) : Fr.fewR h e f = Hand.fewR h e f := by
  unfold Fr.fewR Hand.fewR
  rw [firstT_eq]
  have : (fun t => decide (Fr.rr h t e ≥ f)) = (fun t => decide (Hand.rr h t e ≥ f)) := funext fun t => by rw [rr_eq]
  rw [this]
theorem cov_zero (g : Nat → Int) (e : Nat) : Fr.cov g e 0 = g e := by unfold Fr.cov; simp [Fr.sumD]
theorem cov_succ (g : Nat → Int) (e k : Nat) : Fr.cov g e (k + 1) = Fr.cov g e k + 1 + g (e - (k + 1)) := by
  unfold Fr.cov
  rw [show Fr.sumD (fun j => g (e - j)) (k + 1 + 1) = Fr.sumD (fun j => g (e - j)) (k + 1) + g (e - (k + 1)) from rfl]
  omega
/-- The row of the least floors, from place i on. -/
def lows (g : Nat → Int) (e : Nat) (n : Int) (many i : Nat) : List Int := (List.range (many + 1)).map fun j => if j = many then n + 1 else if i ≤ j then max ((j : Int) + 1) (n - Fr.cov g e (many - 1 - j)) else 0
theorem lows_len (g : Nat → Int) (e : Nat) (n : Int) (many i : Nat) : (lows g e n many i).length = many + 1 := by unfold lows; simp
theorem lows_rd (g : Nat → Int) (e : Nat) (n : Int) (many i j : Nat) (hj : j ≤ many) : rd (lows g e n many i) (j : Int) = if j = many then n + 1 else if i ≤ j then max ((j : Int) + 1) (n - Fr.cov g e (many - 1 - j)) else 0 := by
  unfold rd lows
  rw [Int.toNat_natCast, List.getD_eq_getElem?_getD, List.getElem?_map, List.getElem?_range (by omega)]
  rfl
theorem lows_get (g : Nat → Int) (e : Nat) (n : Int) (many i j : Nat) (h : j < (lows g e n many i).length) : (lows g e n many i)[j] = if j = many then n + 1 else if i ≤ j then max ((j : Int) + 1) (n - Fr.cov g e (many - 1 - j)) else 0 := by
  simp only [lows, List.getElem_map, List.getElem_range]
theorem lows_set (g : Nat → Int) (e : Nat) (n : Int) (many i : Nat) (hi : i < many) (v : Int) (hv : v = max ((i : Int) + 1) (n - Fr.cov g e (many - 1 - i))) : (lows g e n many (i + 1)).set i v = lows g e n many i := by
  apply List.ext_getElem
  · rw [List.length_set, lows_len, lows_len]
  · intro j h1 h2
    rw [List.length_set, lows_len] at h1
    rw [List.getElem_set, lows_get, lows_get]
    by_cases hj : i = j
    · subst hj
      rw [if_pos rfl, if_neg (by omega), if_pos (Nat.le_refl _), hv]
    · rw [if_neg hj]
      by_cases hm : j = many
      · rw [if_pos hm, if_pos hm]
      · rw [if_neg hm, if_neg hm]
        by_cases hl : i + 1 ≤ j
        · rw [if_pos hl, if_pos (by omega)]
        · rw [if_neg hl, if_neg (by omega)]
def fstRes : Option (List Int) → List Int × Bool
  | none => ([], false)
  | some L => (L, true)
theorem most_max (a b : Int) : spec_l1Most.f a b = some (max a b) := by
  unfold spec_l1Most.f
  by_cases h : a > b
  · rw [if_pos h, show max a b = a by omega]
  · rw [if_neg h, show max a b = b by omega]
theorem roOf_l1 (g : Nat → Int) (hg : ∀ j, 0 ≤ g j ∧ g j ≤ 1000000000) (e n many : Nat) (he : e ≤ 10) (hn : n ≤ 1000) (hm : many ≤ e) (RL : List Int) (hR : RL.length = e + 1) (hrd : ∀ j, j ≤ e → rd RL (j : Int) = g j) (d : Nat) : ∀ (i : Nat) (before : Int) (out : List Int), i + d = many → (i : Int) ≤ before → before ≤ n → out.length = i → (i = 0 ∨ before ≥ n - Fr.cov g e (many - i)) → (many = 0 → False) →
    Ev (fun k => spec_roOf.l1 k (e : Int) (n : Int) (many : Int) RL (lows g e n many 0) out before (i : Int)) (fstRes (Fr.fst g e n d before out)) := by
  induction d with
  | zero =>
    intro i before out hi hb1 hb2 ho hlast h0
    have him : i = many := by omega
    subst him
    have hc := hlast.resolve_left (fun h => h0 h)
    rw [Nat.sub_self, cov_zero] at hc
    refine Ev.step (f := fun _ => some (out, true)) (fun k => ?_) (Ev.now _)
    simp only [spec_roOf.l1]
    rw [if_neg (by omega), if_pos (by omega), if_pos (by omega), hrd e (Nat.le_refl _), show wrap64 ((n : Int) - before) = (n : Int) - before from wrap64_small (by omega) (by omega), decide_eq_true (by omega)]
  | succ d ih =>
    intro i before out hi hb1 hb2 ho hlast h0
    have hd : many - 1 - i = d := by omega
    have hgd := hg (e - d - 1)
    have hcb := Fr.cov_bd g hg e d (by omega)
    have hlow : rd (lows g e n many 0) (i : Int) = max ((i : Int) + 1) ((n : Int) - Fr.cov g e d) := by rw [lows_rd g e n many 0 i (by omega), if_neg (by omega), if_pos (Nat.zero_le _), hd]
    obtain ⟨C, hC⟩ : ∃ C, Fr.cov g e d = C := ⟨_, rfl⟩
    obtain ⟨F, hF⟩ : ∃ F, max (before + 1) ((n : Int) - C) = F := ⟨_, rfl⟩
    have hmost : spec_l1Most.f (wrap64 (before + 1)) (rd (lows g e n many 0) (i : Int)) = some F := by
      rw [hlow, hC, show wrap64 (before + 1) = before + 1 from wrap64_small (by omega) (by omega), most_max]
      congr 1
      omega
    have hFb : 0 ≤ F ∧ F ≤ 1001 := by rw [hC] at hcb; omega
    have hidx : wrap64 ((e : Int) - wrap64 ((many : Int) - (i : Int))) = ((e - d - 1 : Nat) : Int) := by
      rw [show wrap64 ((many : Int) - (i : Int)) = (many : Int) - (i : Int) from wrap64_small (by omega) (by omega)]
      exact (wrap64_small (by omega) (by omega)).trans (by omega)
    have hsub : wrap64 (wrap64 (F - before) - 1) = F - before - 1 := by
      rw [show wrap64 (F - before) = F - before from wrap64_small (by omega) (by omega)]
      exact wrap64_small (by omega) (by omega)
    have hfst : Fr.fst g e n (d + 1) before out = if F > n ∨ F - before - 1 > g (e - d - 1) then none else Fr.fst g e n d F (out ++ [F]) := by
      rw [Fr.fst, hC, hF]
    rw [hfst]
    have hr := hrd (e - d - 1) (by omega)
    by_cases hx : F - before - 1 > g (e - d - 1)
    · rw [if_pos (Or.inr hx)]
      refine Ev.step (f := fun _ => some (([] : List Int), false)) (fun k => ?_) (Ev.now _)
      simp only [spec_roOf.l1]
      rw [if_pos (by omega), if_pos (by omega), if_pos (by rw [lows_len]; omega), hmost, Option.bind_some, hidx, if_pos (by omega), if_pos (by omega), hsub, hr, if_pos hx]
    · by_cases hy : F > n
      · rw [if_pos (Or.inl hy)]
        refine Ev.step (f := fun _ => some (([] : List Int), false)) (fun k => ?_) (Ev.now _)
        simp only [spec_roOf.l1]
        rw [if_pos (by omega), if_pos (by omega), if_pos (by rw [lows_len]; omega), hmost, Option.bind_some, hidx, if_pos (by omega), if_pos (by omega), hsub, hr, if_neg hx, if_pos hy]
      · rw [if_neg (by omega)]
        refine Ev.step (f := fun k => spec_roOf.l1 k (e : Int) (n : Int) (many : Int) RL (lows g e n many 0) (out ++ [F]) F ((i + 1 : Nat) : Int)) (fun k => ?_) (ih (i + 1) F (out ++ [F]) (by omega) (by omega) (by omega) (by rw [List.length_append, List.length_singleton]; omega) (Or.inr (by rw [show many - (i + 1) = d by omega, hC]; omega)) h0)
        simp only [spec_roOf.l1]
        rw [if_pos (by omega), if_pos (by omega), if_pos (by rw [lows_len]; omega), hmost, Option.bind_some, hidx, if_pos (by omega), if_pos (by omega), hsub, hr, if_neg hx, if_neg hy, if_pos (by omega), show wrap64 ((i : Int) + 1) = ((i + 1 : Nat) : Int) from wrap64_small (by omega) (by omega)]
theorem roOf_l0 (g : Nat → Int) (hg : ∀ j, 0 ≤ g j ∧ g j ≤ 1000000000) (e n many : Nat) (he : e ≤ 10) (hn : n ≤ 1000) (hm1 : 1 ≤ many) (hm : many ≤ e) (RL : List Int) (hR : RL.length = e + 1) (hrd : ∀ j, j ≤ e → rd RL (j : Int) = g j) (d : Nat) : d ≤ many →
    Ev (fun k => spec_roOf.l0 k (e : Int) (n : Int) (many : Int) RL (lows g e n many d) ((d : Int) - 1)) (fstRes (Fr.fst g e n many 0 [])) := by
  induction d with
  | zero =>
    intro _
    refine Ev.step (f := fun k => spec_roOf.l1 k (e : Int) (n : Int) (many : Int) RL (lows g e n many 0) ([] : List Int) 0 ((0 : Nat) : Int)) (fun k => ?_) (roOf_l1 g hg e n many he hn hm RL hR hrd many 0 0 [] (by omega) (by omega) (by omega) rfl (Or.inl rfl) (fun h => by omega))
    simp only [spec_roOf.l0]
    rw [if_neg (by omega)]
    rfl
  | succ d ih =>
    intro hd
    have hlt : d < many := by omega
    have h1 := ih (by omega)
    have e0 : ((d + 1 : Nat) : Int) - 1 = (d : Int) := by omega
    rw [e0]
    have hidx : wrap64 ((e : Int) - wrap64 (wrap64 ((many : Int) - 1) - (d : Int))) = ((e - (many - 1 - d) : Nat) : Int) := by
      rw [show wrap64 ((many : Int) - 1) = (many : Int) - 1 from wrap64_small (by omega) (by omega), show wrap64 ((many : Int) - 1 - (d : Int)) = (many : Int) - 1 - (d : Int) from wrap64_small (by omega) (by omega)]
      exact (wrap64_small (by omega) (by omega)).trans (by omega)
    have hgd := hg (e - (many - 1 - d))
    have hcb := Fr.cov_bd g hg e (many - 1 - d) (by omega)
    have hw1 : wrap64 ((d : Int) + 1) = ((d + 1 : Nat) : Int) := wrap64_small (by omega) (by omega)
    have hlow := lows_rd g e n many (d + 1) (d + 1) (by omega)
    obtain ⟨V, hV⟩ : ∃ V, rd (lows g e n many (d + 1)) ((d + 1 : Nat) : Int) = V := ⟨_, rfl⟩
    rw [hV] at hlow
    have hval : max (((d + 1 : Nat) : Int)) (V - 1 - g (e - (many - 1 - d))) = max ((d : Int) + 1) ((n : Int) - Fr.cov g e (many - 1 - d)) ∧ -20000000000 ≤ V ∧ V ≤ 2000 := by
      by_cases hx : d + 1 = many
      · rw [if_pos hx] at hlow
        rw [show many - 1 - d = 0 by omega, cov_zero, hlow]
        refine ⟨?_, by omega, by omega⟩
        rw [Nat.sub_zero]
        omega
      · rw [if_neg hx, if_pos (Nat.le_refl _)] at hlow
        obtain ⟨c, hc⟩ : ∃ c, many - 1 - (d + 1) = c := ⟨_, rfl⟩
        have hc1 : many - 1 - d = c + 1 := by omega
        rw [hc] at hlow
        rw [hc1] at hgd ⊢
        have hcc := Fr.cov_bd g hg e c (by omega)
        rw [cov_succ, hlow]
        refine ⟨?_, by omega, by omega⟩
        omega
    have hset := lows_set g e n many d hlt _ hval.1
    have hr := hrd (e - (many - 1 - d)) (by omega)
    refine Ev.step (f := fun k => spec_roOf.l0 k (e : Int) (n : Int) (many : Int) RL (lows g e n many d) ((d : Int) - 1)) (fun k => ?_) h1
    simp only [spec_roOf.l0]
    rw [if_pos (by omega), hw1, if_pos (by omega), if_pos (by rw [lows_len]; omega), hidx, if_pos (by omega), if_pos (by omega), hV, hr, show wrap64 (V - 1) = V - 1 from wrap64_small (by omega) (by omega), show wrap64 (V - 1 - g (e - (many - 1 - d))) = V - 1 - g (e - (many - 1 - d)) from wrap64_small (by omega) (by omega), most_max, Option.bind_some, if_pos (by omega), if_pos (by rw [lows_len]; omega), Int.toNat_natCast, hset, show wrap64 ((d : Int) - 1) = (d : Int) - 1 from wrap64_small (by omega) (by omega)]
theorem roOf_ev (g : Nat → Int) (hg : ∀ j, 0 ≤ g j ∧ g j ≤ 1000000000) (e n many : Nat) (he : e ≤ 10) (hn : n ≤ 1000) (hm1 : 1 ≤ many) (hm : many ≤ e) (RL : List Int) (hR : RL.length = e + 1) (hrd : ∀ j, j ≤ e → rd RL (j : Int) = g j) : Ev (fun k => spec_roOf.f k (e : Int) (n : Int) (many : Int) RL) (fstRes (Fr.fst g e n many 0 [])) := by
  have hs : (List.replicate (many + 1) (0 : Int)).set many ((n : Int) + 1) = lows g e n many many := by
    apply List.ext_getElem
    · rw [List.length_set, List.length_replicate, lows_len]
    · intro j h1 h2
      rw [List.getElem_set, lows_get]
      by_cases hj : many = j
      · rw [if_pos hj, if_pos hj.symm]
      · rw [if_neg hj, if_neg (fun h => hj h.symm), if_neg (by rw [lows_len] at h2; omega), List.getElem_replicate]
  refine Ev.congr (f := fun k => spec_roOf.l0 k (e : Int) (n : Int) (many : Int) RL (lows g e n many many) ((many : Int) - 1)) (fun k => ?_) (roOf_l0 g hg e n many he hn hm1 hm RL hR hrd many (Nat.le_refl _))
  unfold spec_roOf.f
  have hw : wrap64 ((many : Int) + 1) = ((many + 1 : Nat) : Int) := wrap64_small (by omega) (by omega)
  rw [hw, if_pos (by omega), Int.toNat_natCast, if_pos (by omega), Option.bind_some, if_pos (by omega), if_pos (by rw [List.length_replicate]; omega), Int.toNat_natCast, show wrap64 ((n : Int) + 1) = (n : Int) + 1 from wrap64_small (by omega) (by omega), show wrap64 ((many : Int) - 1) = (many : Int) - 1 from wrap64_small (by omega) (by omega), hs]

theorem eqIntS_l0 (l : List Int) (hl : l.length < 1000000000000) (d : Nat) : ∀ (i : Int), 0 ≤ i → i ≤ l.length → (l.length : Int) - i = d → Ev (fun k => laws_eqIntS.l0 k l l i) true := by
  induction d with
  | zero =>
    intro i h0 h1 hd
    exact Ev.step (f := fun _ => some true) (fun k => by simp only [laws_eqIntS.l0]; rw [if_neg (by omega)]) (Ev.now _)
  | succ d ih =>
    intro i h0 h1 hd
    have hlt : i < (l.length : Int) := by omega
    have hw : wrap64 (i + 1) = i + 1 := wrap64_small (by omega) (by omega)
    exact Ev.step (f := fun k => laws_eqIntS.l0 k l l (i + 1)) (fun k => by simp only [laws_eqIntS.l0]; rw [if_pos hlt, if_pos h0, if_pos hlt, if_pos trivial, hw]) (ih (i + 1) (by omega) (by omega) (by omega))

theorem eqIntS_self (l : List Int) (hl : l.length < 1000000000000) : Ev (fun k => laws_eqIntS.f k l l) true :=
  Ev.congr (f := fun k => laws_eqIntS.l0 k l l 0) (fun k => by unfold laws_eqIntS.f; rw [if_pos rfl]) (eqIntS_l0 l hl l.length 0 (by omega) (by omega) (by omega))

theorem markIntS_l0 (n : Nat) (hn : n < 1000000000000) (a : Int) (ha0 : 0 ≤ a) (ha1 : a < 1000000000000) (d : Nat) : ∀ (x : List Int) (i : Int), x.length = n → 0 ≤ i → i ≤ n → (n : Int) - i = d → (∀ j : Int, 0 ≤ j → j < i → rd x j = a + j) →
    ∃ r, Ev (fun k => laws_markIntS.l0 k x (a + i) i) (a + n, r) ∧ r.length = n ∧ ∀ j : Int, 0 ≤ j → j < n → rd r j = a + j := by
  induction d with
  | zero =>
    intro x i hx h0 h1 hd hj
    have hi : i = n := by omega
    subst hi
    exact ⟨x, Ev.step (f := fun _ => some (a + n, x)) (fun k => by simp only [laws_markIntS.l0]; rw [if_neg (by omega)]) (Ev.now _), hx, hj⟩
  | succ d ih =>
    intro x i hx h0 h1 hd hj
    have hlt : i < (x.length : Int) := by omega
    have hw : wrap64 (i + 1) = i + 1 := wrap64_small (by omega) (by omega)
    have hw2 : wrap64 (a + i + 1) = a + (i + 1) := by rw [wrap64_small (by omega) (by omega)]; omega
    obtain ⟨r, hr, hl, hv⟩ := ih (x.set i.toNat (a + i)) (i + 1) (by simp [hx]) (by omega) (by omega) (by omega) (fun j h0j hji => by
      rw [rd_set _ _ _ _ h0j (by omega)]
      by_cases e : j = (i.toNat : Int)
      · rw [if_pos e]; omega
      · rw [if_neg e]; exact hj j h0j (by omega))
    exact ⟨r, Ev.step (f := fun k => laws_markIntS.l0 k (x.set i.toNat (a + i)) (a + (i + 1)) (i + 1)) (fun k => by simp only [laws_markIntS.l0]; rw [if_pos hlt, if_pos h0, hw, hw2]) hr, hl, hv⟩

theorem heldIntS_l0 (r : List Int) (hn : r.length < 1000000000000) (a : Int) (ha0 : 0 ≤ a) (ha1 : a < 1000000000000) (hv : ∀ j : Int, 0 ≤ j → j < r.length → rd r j = a + j) (d : Nat) : ∀ (i : Int), 0 ≤ i → i ≤ r.length → (r.length : Int) - i = d →
    Ev (fun k => laws_heldIntS.l0 k r (a + i) i) (a + r.length) := by
  induction d with
  | zero =>
    intro i h0 h1 hd
    have hi : i = r.length := by omega
    subst hi
    exact Ev.step (f := fun _ => some (a + r.length)) (fun k => by simp only [laws_heldIntS.l0]; rw [if_neg (by omega)]) (Ev.now _)
  | succ d ih =>
    intro i h0 h1 hd
    have hlt : i < (r.length : Int) := by omega
    have hw : wrap64 (i + 1) = i + 1 := wrap64_small (by omega) (by omega)
    have hw2 : wrap64 (a + i + 1) = a + (i + 1) := by rw [wrap64_small (by omega) (by omega)]; omega
    exact Ev.step (f := fun k => laws_heldIntS.l0 k r (a + (i + 1)) (i + 1)) (fun k => by simp only [laws_heldIntS.l0]; rw [if_pos hlt, if_pos h0, if_pos (hv i h0 hlt), hw, hw2]) (ih (i + 1) (by omega) (by omega) (by omega))

theorem mark_held (l : List Int) (hl : l.length < 1000000000) : ∃ r, Ev (fun k => laws_markIntS.f k l 101) (101 + (l.length : Int), r) ∧ Ev (fun k => laws_heldIntS.f k r 101) (101 + (l.length : Int)) ∧ r.length = l.length := by
  obtain ⟨r, h1, h2, h3⟩ := markIntS_l0 l.length (by omega) 101 (by omega) (by omega) l.length l 0 rfl (by omega) (by omega) (by omega) (fun j _ _ => by omega)
  refine ⟨r, h1, ?_, h2⟩
  have := heldIntS_l0 r (by omega) 101 (by omega) (by omega) (fun j h0 h1 => h3 j h0 (by omega)) r.length 0 (by omega) (by omega) (by omega)
  rw [h2] at this
  exact this

theorem law_of (a0 a1 a2 : Int) (l : List Int) (b : Bool) (hl : l.length < 1000000) (hs : Ev (fun k => spec_FirstRound.f k a0 a1 a2) (l, b)) (hi : Ev (fun k => impl_FirstRound.f k a0 a1 a2) (l, b)) : ∃ k, laws_FnExactFirstRound.f k a0 a1 a2 = some true := by
  obtain ⟨r, hm, hh, hrl⟩ := mark_held l (by omega)
  have heq := eqIntS_self l (by omega)
  apply Ev.rounds
  unfold laws_FnExactFirstRound.f
  refine Ev.bind hs ?_
  refine Ev.bind hi ?_
  refine Ev.bind heq ?_
  refine Ev.congr (fun k => if_pos rfl) ?_
  refine Ev.congr (fun k => if_neg (by simp)) ?_
  refine Ev.bind hm ?_
  refine Ev.bind hh ?_
  refine Ev.congr (fun k => if_neg (by omega)) ?_
  refine Ev.congr (fun k => if_pos rfl) ?_
  refine Ev.bind hi ?_
  refine Ev.bind heq ?_
  refine Ev.congr (fun k => if_pos rfl) ?_
  refine Ev.congr (fun k => if_neg (by simp)) ?_
  refine Ev.bind hh ?_
  refine Ev.congr (fun k => if_neg (by omega)) ?_
  refine Ev.congr (fun k => if_pos rfl) ?_
  exact Ev.now _

theorem roLess_go (a b : List Int) (ha : a.length ≤ 1000) (hb : b.length ≤ 1000) (d : Nat) : ∀ i : Nat, i + d = a.length → i ≤ b.length → Ev (fun k => spec_roLess.l0 k a b a (a.length : Int) (i : Int)) (Fr.lexLt (a.drop i) (b.drop i)) := by
  induction d with
  | zero =>
    intro i hi hib
    refine Ev.step (f := fun _ => some (decide ((a.length : Int) < (b.length : Int)))) (fun k => ?_) ?_
    · simp only [spec_roLess.l0]; rw [if_neg (by omega)]
    · rw [List.drop_eq_nil_of_le (by omega)]
      by_cases h : i < b.length
      · rw [List.drop_eq_getElem_cons h, decide_eq_true (by omega)]; exact Ev.now _
      · rw [List.drop_eq_nil_of_le (by omega), decide_eq_false (by omega)]; exact Ev.now _
  | succ d ih =>
    intro i hi hib
    have hlt : i < a.length := by omega
    have hw : wrap64 ((i : Int) + 1) = ((i + 1 : Nat) : Int) := wrap64_small (by omega) (by omega)
    rw [List.drop_eq_getElem_cons hlt]
    by_cases h : i < b.length
    · rw [List.drop_eq_getElem_cons h]
      show Ev _ (if a[i] = b[i] then Fr.lexLt (a.drop (i + 1)) (b.drop (i + 1)) else decide (a[i] < b[i]))
      by_cases hq : a[i] = b[i]
      · rw [if_pos hq]
        refine Ev.step (f := fun k => spec_roLess.l0 k a b a (a.length : Int) ((i + 1 : Nat) : Int)) (fun k => ?_) (ih (i + 1) (by omega) (by omega))
        simp only [spec_roLess.l0]
        rw [if_pos (by omega), if_pos (by omega), if_pos (by omega), if_neg (by omega), if_pos (by omega), rd_nat a i hlt, rd_nat b i h, if_pos hq, hw]
      · rw [if_neg hq]
        refine Ev.step (f := fun _ => some (decide (a[i] < b[i]))) (fun k => ?_) (Ev.now _)
        simp only [spec_roLess.l0]
        rw [if_pos (by omega), if_pos (by omega), if_pos (by omega), if_neg (by omega), if_pos (by omega), rd_nat a i hlt, rd_nat b i h, if_neg hq]
    · rw [show b.drop i = [] from List.drop_eq_nil_of_le (by omega)]
      refine Ev.step (f := fun _ => some false) (fun k => ?_) (Ev.now _)
      simp only [spec_roLess.l0]
      rw [if_pos (by omega), if_pos (by omega), if_pos (by omega), if_pos (by omega)]
theorem roLess_ev (a b : List Int) (ha : a.length ≤ 1000) (hb : b.length ≤ 1000) : Ev (fun k => spec_roLess.f k a b) (Fr.lexLt a b) := by
  have h := roLess_go a b ha hb a.length 0 (by omega) (Nat.zero_le _)
  rw [List.drop_zero, List.drop_zero] at h
  exact h
theorem fst_none (g : Nat → Int) (e : Nat) (n : Int) : ∀ (k : Nat) (before : Int) (out : List Int), before ≤ n → (k : Int) + before > n → Fr.fst g e n k before out = none
  | 0, before, out, h1, h2 => by omega
  | k + 1, before, out, h1, h2 => by
    rw [Fr.fst]
    split
    · rfl
    · rename_i h
      exact fst_none g e n k _ _ (by omega) (by omega)
theorem fst_len (g : Nat → Int) (e : Nat) (n : Int) : ∀ (k : Nat) (before : Int) (out L : List Int), Fr.fst g e n k before out = some L → L.length = out.length + k
  | 0, before, out, L, h => by
    have : out = L := Option.some.inj h
    rw [this]; rfl
  | k + 1, before, out, L, h => by
    rw [Fr.fst] at h
    split at h
    · cases h
    · have := fst_len g e n k _ _ L h
      rw [List.length_append, List.length_singleton] at this
      omega
theorem bestF_over (g : Nat → Int) (e n : Nat) (best : List Int) (found : Bool) : ∀ (d many : Nat), n < many → Fr.bestF g e n d many best found = best
  | 0, _, _ => rfl
  | d + 1, many, h => by
    rw [Fr.bestF_none (fst_none g e n many 0 [] (by omega) (by omega))]
    exact bestF_over g e n best found d (many + 1) (by omega)
theorem roFirst_go (g : Nat → Int) (hg : ∀ j, 0 ≤ g j ∧ g j ≤ 1000000000) (e h n : Nat) (he : e ≤ 10) (hn : n ≤ 1000) (RL : List Int) (hR : RL.length = e + 1) (hrd : ∀ j, j ≤ e → rd RL (j : Int) = g j) (d : Nat) : ∀ (many : Nat) (best : List Int), many + d = min h e + 1 → 1 ≤ many → best.length ≤ 10 →
    Ev (fun k => spec_roFirst.l0 k (e : Int) (h : Int) (n : Int) RL best (many : Int)) (Fr.bestF g e n d many best (decide (best.length ≠ 0))) := by
  induction d with
  | zero =>
    intro many best hm h1 hb
    refine Ev.step (f := fun _ => some best) (fun k => ?_) (Ev.now _)
    simp only [spec_roFirst.l0]
    rw [least_nat, Option.bind_some, least_nat, Option.bind_some, if_neg (by omega)]
  | succ d ih =>
    intro many best hm h1 hb
    by_cases hx : many ≤ n
    · have hw : wrap64 ((many : Int) + 1) = ((many + 1 : Nat) : Int) := wrap64_small (by omega) (by omega)
      have hof := roOf_ev g hg e n many he hn h1 (by omega) RL hR hrd
      refine Ev.step (f := fun k => (spec_roOf.f k (e : Int) (n : Int) (many : Int) RL).bind fun bt => (if bt.2 = true then (if (best.length : Int) = 0 then (spec_roFirst.l0 k (e : Int) (h : Int) (n : Int) RL bt.1 ((many + 1 : Nat) : Int)) else ((spec_roLess.f k bt.1 best).bind fun t => (if t = true then (spec_roFirst.l0 k (e : Int) (h : Int) (n : Int) RL bt.1 ((many + 1 : Nat) : Int)) else (spec_roFirst.l0 k (e : Int) (h : Int) (n : Int) RL best ((many + 1 : Nat) : Int))))) else (spec_roFirst.l0 k (e : Int) (h : Int) (n : Int) RL best ((many + 1 : Nat) : Int)))) (fun k => ?_) ?_
      · simp only [spec_roFirst.l0]
        rw [least_nat, Option.bind_some, least_nat, Option.bind_some, if_pos (by omega), hw]
      · refine Ev.bind (f := fun k bt => (if bt.2 = true then (if (best.length : Int) = 0 then (spec_roFirst.l0 k (e : Int) (h : Int) (n : Int) RL bt.1 ((many + 1 : Nat) : Int)) else ((spec_roLess.f k bt.1 best).bind fun t => (if t = true then (spec_roFirst.l0 k (e : Int) (h : Int) (n : Int) RL bt.1 ((many + 1 : Nat) : Int)) else (spec_roFirst.l0 k (e : Int) (h : Int) (n : Int) RL best ((many + 1 : Nat) : Int))))) else (spec_roFirst.l0 k (e : Int) (h : Int) (n : Int) RL best ((many + 1 : Nat) : Int)))) hof ?_
        cases hz : Fr.fst g e n many 0 [] with
        | none =>
          rw [Fr.bestF_none hz]
          exact Ev.congr (f := _) (fun k => if_ff _ _) (ih (many + 1) best (by omega) (by omega) hb)
        | some L =>
          have hl := fst_len g e n many 0 [] L hz
          rw [List.length_nil, Nat.zero_add] at hl
          rw [Fr.bestF_some hz]
          have hL := ih (many + 1) L (by omega) (by omega) (by omega)
          rw [decide_eq_true (show L.length ≠ 0 by omega)] at hL
          have hB := ih (many + 1) best (by omega) (by omega) hb
          refine Ev.congr (f := _) (fun k => if_pos rfl) ?_
          by_cases h0 : best.length = 0
          · rw [decide_eq_false (show ¬ best.length ≠ 0 from fun hh => hh h0), Bool.not_false, Bool.true_or, if_pos rfl]
            exact Ev.congr (f := _) (fun k => if_pos (by omega)) hL
          · rw [decide_eq_true (show best.length ≠ 0 from h0)] at hB ⊢
            rw [Bool.not_true, Bool.false_or]
            refine Ev.congr (f := _) (fun k => if_neg (by omega)) ?_
            refine Ev.bind (roLess_ev L best (by omega) (by omega)) ?_
            cases hq : Fr.lexLt L best with
            | true => rw [if_pos rfl]; exact Ev.congr (f := _) (fun k => if_pos rfl) hL
            | false => rw [if_neg (by decide)]; exact Ev.congr (f := _) (fun k => if_ff _ _) hB
    · rw [bestF_over g e n best _ (d + 1) many (by omega)]
      refine Ev.step (f := fun _ => some best) (fun k => ?_) (Ev.now _)
      simp only [spec_roFirst.l0]
      rw [least_nat, Option.bind_some, least_nat, Option.bind_some, if_neg (by omega)]
theorem roFirst_ev (e h n : Nat) (he1 : 1 ≤ e) (he : e ≤ 10) (hh1 : 1 ≤ h) (hn : n ≤ 1000) : Ev (fun k => spec_roFirst.f k (e : Int) (h : Int) (n : Int)) (Fr.firstR h e n) := by
  unfold Fr.firstR spec_roFirst.f
  by_cases h0 : n = 0
  · rw [if_pos h0]
    exact Ev.congr (f := fun _ => some ([] : List Int)) (fun k => if_pos (by omega)) (Ev.now _)
  · rw [if_neg h0]
    have hb := Fr.fewR_bd h e n (by omega)
    refine Ev.congr (f := _) (fun k => if_neg (by omega)) ?_
    refine Ev.bind (roFew_ev h e (n : Int) hh1 he1 he (by omega)) ?_
    rw [← fewR_eq]
    obtain ⟨t, ht⟩ : ∃ t, Fr.fewR h e n = t := ⟨_, rfl⟩
    rw [ht] at hb ⊢
    refine Ev.bind (f := fun k t_ => spec_roFirst.l0 k (e : Int) (h : Int) (n : Int) t_ ([] : List Int) 1) (a := row h (t - 1) e) ?_ ?_
    · have h2 := roReach_ev h (t - 1) e he (by omega)
      refine Ev.congr (f := _) (fun k => ?_) h2
      rw [show wrap64 ((t : Int) - 1) = ((t - 1 : Nat) : Int) from (wrap64_small (by omega) (by omega)).trans (by omega)]
    · have h3 := roFirst_go (Fr.rr h (t - 1)) (fun j => Fr.rr_bd h (t - 1) j) e h n he hn (row h (t - 1) e) (row_len h (t - 1) e) (fun j hj => by rw [row_rd h (t - 1) e j hj, rr_eq]) (min h e) 1 [] (by omega) (Nat.le_refl _) (Nat.zero_le _)
      exact h3
theorem spec_ev (e h f : Int) : Ev (fun k => spec_FirstRound.f k e h f) (Fr.firRes e h f) := by
  unfold Fr.firRes spec_FirstRound.f
  cases hc : Hand.house e h f with
  | false =>
    refine Ev.congr (f := fun _ => some (([] : List Int), false)) (fun k => ?_) (Ev.now _)
    rw [roFloors_some, hc, Option.bind_some, if_ff]
  | true =>
    obtain ⟨e, h, f, rfl, rfl, rfl, he1, he2, hh1, hh2, hf⟩ := house_nat hc
    refine Ev.congr (f := fun k => (spec_roFirst.f k (e : Int) (h : Int) (f : Int)).bind fun t => some (t, true)) (fun k => ?_) ?_
    · rw [roFloors_some, hc, Option.bind_some, if_pos rfl]
    · refine Ev.bind (f := fun _ t => some (t, true)) (roFirst_ev e h f he1 he2 hh1 hf) ?_
      rw [if_pos rfl]
      simp only [Int.toNat_natCast]
      exact Ev.now _
theorem bestF_len (g : Nat → Int) (e n m : Nat) : ∀ (d many : Nat) (best : List Int) (found : Bool), many + d ≤ m + 1 → best.length ≤ m → (Fr.bestF g e n d many best found).length ≤ m
  | 0, _, _, _, _, h => h
  | d + 1, many, best, found, h1, h2 => by
    cases hz : Fr.fst g e n many 0 [] with
    | none => rw [Fr.bestF_none hz]; exact bestF_len g e n m d (many + 1) best found (by omega) h2
    | some L =>
      have hl := fst_len g e n many 0 [] L hz
      rw [List.length_nil, Nat.zero_add] at hl
      rw [Fr.bestF_some hz]
      split
      · exact bestF_len g e n m d (many + 1) L true (by omega) (by omega)
      · exact bestF_len g e n m d (many + 1) best found (by omega) h2
theorem res_len (e h f : Int) : (Fr.firRes e h f).1.length < 1000000 := by
  unfold Fr.firRes
  cases hc : Hand.house e h f with
  | false => rw [if_ff]; exact Nat.zero_lt_of_lt (Nat.lt_succ_self _)
  | true =>
    obtain ⟨e, h, f, rfl, rfl, rfl, he1, he2, hh1, hh2, hf⟩ := house_nat hc
    rw [if_pos rfl]
    simp only [Int.toNat_natCast]
    show (Fr.firstR h e f).length < 1000000
    unfold Fr.firstR
    split
    · simp
    · have := bestF_len (Fr.rr h (Fr.fewR h e f - 1)) e f (min h e) (min h e) 1 [] false (by omega) (Nat.zero_le _)
      omega
theorem FnExactFirstRound : laws_FnExactFirstRound.Pure := by
  intro a0 a1 a2 _ _ _
  exact law_of a0 a1 a2 _ _ (res_len a0 a1 a2) (spec_ev a0 a1 a2) (Ev.now _)

end Go.Proofs.Ytnolocmcjcjjcaa.Pure
