/- The program's RoundTable answers as the reference's does, in memory of its own, for every three numbers; no conditions. -/
import Derived.Test.YtnolocmcjcjjcaaQFnExactRoundTablex2
namespace Go.Proofs.Ytnolocmcjcjjcaa.Pure
open Go.RowKit Go.Proofs.Ytnolocmcjcjjcaa.QFnExactRoundTable Go.Proofs.YtnolocmcjcjjcaaW.PrintWords Go.Proofs.YtnolocmcjcjjcaaW.PrintLast
set_option linter.unusedVariables false

theorem wrap64_small {x : Int} (h0 : -9223372036854775808 ≤ x) (h1 : x < 9223372036854775808) : wrap64 x = x := by
  unfold wrap64; omega
theorem l1In_some (a b c : Int) : spec_l1In.f a b c = some (decide (b ≤ a ∧ a ≤ c)) := by
  unfold spec_l1In.f
  by_cases h : a ≥ b
  · rw [if_pos h]; congr 1; rw [Bool.eq_iff_iff]; simp; omega
  · rw [if_neg h]; congr 1; symm; rw [decide_eq_false_iff_not]; omega
theorem l1In_yes {a b c : Int} (h : b ≤ a ∧ a ≤ c) : spec_l1In.f a b c = some true := by rw [l1In_some, decide_eq_true h]
theorem l1In_no {a b c : Int} (h : ¬ (b ≤ a ∧ a ≤ c)) : spec_l1In.f a b c = some false := by rw [l1In_some, decide_eq_false h]
theorem if_ff {α : Type} (x y : α) : (if false = true then x else y) = y := if_neg (by decide)

theorem inn_dec (a b c : Int) : Hand.inn a b c = decide (b ≤ a ∧ a ≤ c) := by unfold Hand.inn; rw [Bool.decide_and]
theorem inn_some (a b c : Int) : spec_l1In.f a b c = some (Hand.inn a b c) := by rw [l1In_some, inn_dec]
theorem rd_nat (l : List Int) (i : Nat) (h : i < l.length) : rd l (i : Int) = l[i] := by unfold rd; simp [h]

theorem rd_set (l : List Int) (i : Nat) (v : Int) (j : Int) (hj : 0 ≤ j) (hi : i < l.length) : rd (l.set i v) j = if j = (i : Int) then v else rd l j := by
  unfold rd
  by_cases h : j = (i : Int)
  · subst h
    simp [hi]
  · rw [if_neg h]
    have : i ≠ j.toNat := by omega
    simp [List.getD_eq_getElem?_getD, this]

theorem set_at {α : Type} (a : List α) (i : Nat) (hi : a.length = i) (z v : α) (rest : List α) : (a ++ z :: rest).set i v = a ++ v :: rest := by
  subst hi
  rw [List.set_append_right _ _ (Nat.le_refl _), Nat.sub_self, List.set_cons_zero]
def row (h t E : Nat) : List Int := (List.range (E + 1)).map fun e => Hand.rr h t e
theorem row_len (h t E : Nat) : (row h t E).length = E + 1 := by unfold row; simp
theorem row_rd (h t E e : Nat) (he : e ≤ E) : rd (row h t E) (e : Int) = Hand.rr h t e := by
  rw [rd_nat _ _ (by rw [row_len]; omega)]; unfold row; simp
theorem row_zero (h E : Nat) : row h 0 E = List.replicate (E + 1) 0 := by
  unfold row
  rw [List.eq_replicate_iff]
  refine ⟨by simp, fun b hb => ?_⟩
  obtain ⟨e, _, rfl⟩ := List.mem_map.mp hb
  rfl
theorem least_min (a : Int) : spec_l1Least.f a 1000000000 = some (min a 1000000000) := by
  unfold spec_l1Least.f
  by_cases h : a < 1000000000
  · rw [if_pos h]; congr 1; omega
  · rw [if_neg h]; congr 1; omega
theorem least_nat (a b : Nat) : spec_l1Least.f (a : Int) (b : Int) = some ((min a b : Nat) : Int) := by
  unfold spec_l1Least.f
  by_cases h : (a : Int) < (b : Int)
  · rw [if_pos h]; congr 1; omega
  · rw [if_neg h]; congr 1; omega
theorem roMore_l1 (h t E i own : Nat) (hE : E ≤ 10) (hi : i ≤ E) (ho : own ≤ i) (X : List Int) (hX : X.length = E + 1) (r : List Int)
    (hr : Ev (fun k => spec_roMore.l0 k (row h t E) (h : Int) (X.set i (min (Hand.cov (Hand.rr h t) i own) 1000000000)) ((i + 1 : Nat) : Int)) r) (d : Nat) :
    ∀ j : Nat, j + d = own + 1 → Ev (fun k => spec_roMore.l1 k (row h t E) (h : Int) X (i : Int) (own : Int) ((own : Int) + Hand.sumD (fun j => Hand.rr h t (i - j)) j) (j : Int)) r := by
  induction d with
  | zero =>
    intro j hj
    obtain rfl : j = own + 1 := by omega
    refine Ev.step (fun k => ?_) hr
    simp only [spec_roMore.l1]
    rw [if_neg (by omega), least_min, Option.bind_some, if_pos (by omega), if_pos (by omega), Int.toNat_natCast, wrap64_small (by omega) (by omega)]
    rfl
  | succ d ih =>
    intro j hj
    have HW := Aside0.mk (show wrap64 ((i : Int) - (j : Int)) = ((i - j : Nat) : Int) ∧ wrap64 ((j : Int) + 1) = ((j + 1 : Nat) : Int) ∧ wrap64 ((own : Int) + Hand.sumD (fun j => Hand.rr h t (i - j)) j + Hand.rr h t (i - j)) = (own : Int) + Hand.sumD (fun j => Hand.rr h t (i - j)) (j + 1) by
      have h1 := Hand.sumD_bd (fun j => Hand.rr h t (i - j)) (fun j => Hand.rr_bd h t (i - j)) j
      have h2 := Hand.rr_bd h t (i - j)
      refine ⟨(wrap64_small (by omega) (by omega)).trans (by omega), (wrap64_small (by omega) (by omega)).trans (by omega), ?_⟩
      simp only [Hand.sumD]
      exact (wrap64_small (by omega) (by omega)).trans (by omega))
    refine Ev.step (fun k => ?_) (ih (j + 1) (by omega))
    simp only [spec_roMore.l1]
    rw [if_pos (by omega), HW.out.1, if_pos (by omega), if_pos (by rw [row_len]; omega), row_rd h t E (i - j) (by omega), HW.out.2.1, HW.out.2.2]
theorem roMore_l0 (h t E : Nat) (hE : E ≤ 10) (d : Nat) : ∀ i : Nat, 1 ≤ i → i + d = E + 1 →
    Ev (fun k => spec_roMore.l0 k (row h t E) (h : Int) (((List.range i).map fun e => Hand.rr h (t + 1) e) ++ List.replicate d 0) (i : Int)) (row h (t + 1) E) := by
  induction d with
  | zero =>
    intro i h1 hi
    obtain rfl : i = E + 1 := by omega
    refine Ev.step (f := fun _ => some (row h (t + 1) E)) (fun k => ?_) (Ev.now _)
    simp only [spec_roMore.l0]
    rw [if_neg (by rw [row_len]; omega), List.replicate_zero, List.append_nil]
    rfl
  | succ d ih =>
    intro i h1 hi
    have hnext := ih (i + 1) (by omega) (by omega)
    have hset : (((List.range i).map fun e => Hand.rr h (t + 1) e) ++ List.replicate (d + 1) 0).set i (min (Hand.cov (Hand.rr h t) i (min i h)) 1000000000) = ((List.range (i + 1)).map fun e => Hand.rr h (t + 1) e) ++ List.replicate d 0 := by
      rw [List.replicate_succ, set_at _ i (by simp), List.range_succ, List.map_append, List.append_assoc]
      congr 1
      show _ = (Hand.rr h (t + 1) i) :: List.replicate d 0
      congr 1
      simp only [Hand.rr]
      rw [if_neg (by omega), Nat.min_comm h i]
      omega
    have hin := roMore_l1 h t E i (min i h) hE (by omega) (by omega) (((List.range i).map fun e => Hand.rr h (t + 1) e) ++ List.replicate (d + 1) 0) (by simp; omega) (row h (t + 1) E) (by rw [hset]; exact hnext) (min i h + 1) 0 (by omega)
    refine Ev.step (fun k => ?_) hin
    simp only [spec_roMore.l0]
    rw [if_pos (by rw [row_len]; omega), least_nat, Option.bind_some]
    simp only [Hand.sumD, Int.add_zero]
    rfl
theorem roMore_ev (h t E : Nat) (hE : E ≤ 10) : Ev (fun k => spec_roMore.f k (row h t E) (h : Int)) (row h (t + 1) E) := by
  have h0 := roMore_l0 h t E hE E 1 (by omega) (by omega)
  refine Ev.congr (fun k => ?_) h0
  unfold spec_roMore.f
  rw [row_len, if_pos (by omega), Int.toNat_natCast, if_pos (by omega)]
  congr 1

theorem sumD_first (f : Nat → Int) (hf : ∀ j, 0 ≤ f j) : ∀ k, f 0 ≤ Hand.sumD f (k + 1)
  | 0 => by simp [Hand.sumD]
  | k + 1 => by have := sumD_first f hf k; have := hf (k + 1); simp only [Hand.sumD] at *; omega
theorem rr_ge (h e : Nat) (hh : 1 ≤ h) (he : 1 ≤ e) : ∀ t : Nat, t ≤ 1000 → (t : Int) ≤ Hand.rr h t e
  | 0, _ => by simp [Hand.rr]
  | t + 1, ht => by
    have h1 := rr_ge h e hh he t (by omega)
    have h2 := sumD_first (fun j => Hand.rr h t (e - j)) (fun j => (Hand.rr_bd h t (e - j)).1) (min h e)
    simp only [Nat.sub_zero] at h2
    simp only [Hand.rr]
    rw [if_neg (by omega)]
    unfold Hand.cov
    omega
theorem roFew_go (h e : Nat) (f : Int) (hh : 1 ≤ h) (he : 1 ≤ e) (hE : e ≤ 10) (hf : f ≤ 1000) (d : Nat) : ∀ t : Nat, t + d = 1000 →
    Ev (fun k => spec_roFew.l0 k (e : Int) (h : Int) f (row h t e) (t : Int)) ((Hand.firstT (fun t => decide (Hand.rr h t e ≥ f)) 1000 (d + 1) t : Nat) : Int) := by
  induction d with
  | zero =>
    intro t ht
    have hge := rr_ge h e hh he t (by omega)
    have hp : decide (Hand.rr h t e ≥ f) = true := decide_eq_true (by omega)
    simp only [Hand.firstT]
    rw [if_pos hp]
    refine Ev.step (f := fun _ => some (t : Int)) (fun k => ?_) (Ev.now _)
    simp only [spec_roFew.l0]
    rw [if_pos (by omega), if_pos (by rw [row_len]; omega), row_rd h t e e (Nat.le_refl _), if_neg (by omega)]
  | succ d ih =>
    intro t ht
    rw [show Hand.firstT (fun t => decide (Hand.rr h t e ≥ f)) 1000 (d + 1 + 1) t = if decide (Hand.rr h t e ≥ f) then t else Hand.firstT (fun t => decide (Hand.rr h t e ≥ f)) 1000 (d + 1) (t + 1) from rfl]
    by_cases c : Hand.rr h t e ≥ f
    · rw [if_pos (decide_eq_true c)]
      refine Ev.step (f := fun _ => some (t : Int)) (fun k => ?_) (Ev.now _)
      simp only [spec_roFew.l0]
      rw [if_pos (by omega), if_pos (by rw [row_len]; omega), row_rd h t e e (Nat.le_refl _), if_neg (by omega)]
    · rw [if_neg (by simpa using c)]
      refine Ev.step (f := fun k => (spec_roMore.f k (row h t e) (h : Int)).bind fun x => (spec_roFew.l0 k (e : Int) (h : Int) f x ((t + 1 : Nat) : Int))) (fun k => ?_) (Ev.bind (roMore_ev h t e hE) (ih (t + 1) (by omega)))
      simp only [spec_roFew.l0]
      rw [if_pos (by omega), if_pos (by rw [row_len]; omega), row_rd h t e e (Nat.le_refl _), if_pos (by omega), wrap64_small (by omega) (by omega)]
      rfl
theorem roFew_ev (h e : Nat) (f : Int) (hh : 1 ≤ h) (he : 1 ≤ e) (hE : e ≤ 10) (hf : f ≤ 1000) : Ev (fun k => spec_roFew.f k (e : Int) (h : Int) f) ((Hand.fewR h e f : Nat) : Int) := by
  have h1 := roFew_go h e f hh he hE hf 1000 0 (by omega)
  refine Ev.congr (fun k => ?_) h1
  unfold spec_roFew.f
  rw [wrap64_small (by omega) (by omega), if_pos (by omega), show ((e : Int) + 1).toNat = e + 1 by omega, if_pos (by omega), row_zero]
  rfl
theorem house_nat {e h f : Int} (hc : Hand.house e h f = true) : ∃ e' h' f' : Nat, e = e' ∧ h = h' ∧ f = f' ∧ 1 ≤ e' ∧ e' ≤ 10 ∧ 1 ≤ h' ∧ h' ≤ 10 ∧ f' ≤ 1000 := by
  unfold Hand.house at hc
  rw [Bool.and_eq_true, Bool.and_eq_true] at hc
  obtain ⟨e, rfl, _, _⟩ := Hand.inn_nat hc.1 (by omega)
  obtain ⟨h, rfl, _, _⟩ := Hand.inn_nat hc.2.1 (by omega)
  obtain ⟨f, rfl, _, _⟩ := Hand.inn_nat hc.2.2 (by omega)
  exact ⟨e, h, f, rfl, rfl, rfl, by omega, by omega, by omega, by omega, by omega⟩

theorem eqIntS_l0 (l : List Int) (hl : l.length < 1000000000000) (d : Nat) : ∀ (i : Int), 0 ≤ i → i ≤ l.length → (l.length : Int) - i = d → Ev (fun k => laws_eqIntS.l0 k l l i) true := by
  induction d with
  | zero =>
    intro i h0 h1 hd
    exact Ev.step (f := fun _ => some true) (fun k => by simp only [laws_eqIntS.l0]; rw [if_neg (by omega)]) (Ev.now _)
  | succ d ih =>
    intro i h0 h1 hd
    have hlt : i < (l.length : Int) := by omega
    have hw : wrap64 (i + 1) = i + 1 := wrap64_small (by omega) (by omega)
    exact Ev.step (f := fun k => laws_eqIntS.l0 k l l (i + 1)) (fun k => by simp only [laws_eqIntS.l0]; rw [if_pos hlt, if_pos h0, if_pos hlt, if_pos trivial, hw]) (ih (i + 1) (by omega) (by omega) (by omega))

theorem eqIntS_self (l : List Int) (hl : l.length < 1000000000000) : Ev (fun k => laws_eqIntS.f k l l) true :=
  Ev.congr (f := fun k => laws_eqIntS.l0 k l l 0) (fun k => by unfold laws_eqIntS.f; rw [if_pos rfl]) (eqIntS_l0 l hl l.length 0 (by omega) (by omega) (by omega))

theorem markIntS_l0 (n : Nat) (hn : n < 1000000000000) (a : Int) (ha0 : 0 ≤ a) (ha1 : a < 1000000000000) (d : Nat) : ∀ (x : List Int) (i : Int), x.length = n → 0 ≤ i → i ≤ n → (n : Int) - i = d → (∀ j : Int, 0 ≤ j → j < i → rd x j = a + j) →
    ∃ r, Ev (fun k => laws_markIntS.l0 k x (a + i) i) (a + n, r) ∧ r.length = n ∧ ∀ j : Int, 0 ≤ j → j < n → rd r j = a + j := by
  induction d with
  | zero =>
    intro x i hx h0 h1 hd hj
    have hi : i = n := by omega
    subst hi
    exact ⟨x, Ev.step (f := fun _ => some (a + n, x)) (fun k => by simp only [laws_markIntS.l0]; rw [if_neg (by omega)]) (Ev.now _), hx, hj⟩
  | succ d ih =>
    intro x i hx h0 h1 hd hj
    have hlt : i < (x.length : Int) := by omega
    have hw : wrap64 (i + 1) = i + 1 := wrap64_small (by omega) (by omega)
    have hw2 : wrap64 (a + i + 1) = a + (i + 1) := by rw [wrap64_small (by omega) (by omega)]; omega
    obtain ⟨r, hr, hl, hv⟩ := ih (x.set i.toNat (a + i)) (i + 1) (by simp [hx]) (by omega) (by omega) (by omega) (fun j h0j hji => by
      rw [rd_set _ _ _ _ h0j (by omega)]
      by_cases e : j = (i.toNat : Int)
      · rw [if_pos e]; omega
      · rw [if_neg e]; exact hj j h0j (by omega))
    exact ⟨r, Ev.step (f := fun k => laws_markIntS.l0 k (x.set i.toNat (a + i)) (a + (i + 1)) (i + 1)) (fun k => by simp only [laws_markIntS.l0]; rw [if_pos hlt, if_pos h0, hw, hw2]) hr, hl, hv⟩

theorem heldIntS_l0 (r : List Int) (hn : r.length < 1000000000000) (a : Int) (ha0 : 0 ≤ a) (ha1 : a < 1000000000000) (hv : ∀ j : Int, 0 ≤ j → j < r.length → rd r j = a + j) (d : Nat) : ∀ (i : Int), 0 ≤ i → i ≤ r.length → (r.length : Int) - i = d →
    Ev (fun k => laws_heldIntS.l0 k r (a + i) i) (a + r.length) := by
  induction d with
  | zero =>
    intro i h0 h1 hd
    have hi : i = r.length := by omega
    subst hi
    exact Ev.step (f := fun _ => some (a + r.length)) (fun k => by simp only [laws_heldIntS.l0]; rw [if_neg (by omega)]) (Ev.now _)
  | succ d ih =>
    intro i h0 h1 hd
    have hlt : i < (r.length : Int) := by omega
    have hw : wrap64 (i + 1) = i + 1 := wrap64_small (by omega) (by omega)
    have hw2 : wrap64 (a + i + 1) = a + (i + 1) := by rw [wrap64_small (by omega) (by omega)]; omega
    exact Ev.step (f := fun k => laws_heldIntS.l0 k r (a + (i + 1)) (i + 1)) (fun k => by simp only [laws_heldIntS.l0]; rw [if_pos hlt, if_pos h0, if_pos (hv i h0 hlt), hw, hw2]) (ih (i + 1) (by omega) (by omega) (by omega))

theorem mark_held (l : List Int) (hl : l.length < 1000000000) : ∃ r, Ev (fun k => laws_markIntS.f k l 101) (101 + (l.length : Int), r) ∧ Ev (fun k => laws_heldIntS.f k r 101) (101 + (l.length : Int)) ∧ r.length = l.length := by
  obtain ⟨r, h1, h2, h3⟩ := markIntS_l0 l.length (by omega) 101 (by omega) (by omega) l.length l 0 rfl (by omega) (by omega) (by omega) (fun j _ _ => by omega)
  refine ⟨r, h1, ?_, h2⟩
  have := heldIntS_l0 r (by omega) 101 (by omega) (by omega) (fun j h0 h1 => h3 j h0 (by omega)) r.length 0 (by omega) (by omega) (by omega)
  rw [h2] at this
  exact this

theorem law_of (a0 a1 a2 : Int) (l : List Int) (b : Bool) (hl : l.length < 1000000) (hs : Ev (fun k => spec_RoundTable.f k a0 a1 a2) (l, b)) (hi : Ev (fun k => impl_RoundTable.f k a0 a1 a2) (l, b)) : ∃ k, laws_FnExactRoundTable.f k a0 a1 a2 = some true := by
  obtain ⟨r, hm, hh, hrl⟩ := mark_held l (by omega)
  have heq := eqIntS_self l (by omega)
  apply Ev.rounds
  unfold laws_FnExactRoundTable.f
  refine Ev.bind hs ?_
  refine Ev.bind hi ?_
  refine Ev.bind heq ?_
  refine Ev.congr (fun k => if_pos rfl) ?_
  refine Ev.congr (fun k => if_neg (by simp)) ?_
  refine Ev.bind hm ?_
  refine Ev.bind hh ?_
  refine Ev.congr (fun k => if_neg (by omega)) ?_
  refine Ev.congr (fun k => if_pos rfl) ?_
  refine Ev.bind hi ?_
  refine Ev.bind heq ?_
  refine Ev.congr (fun k => if_pos rfl) ?_
  refine Ev.congr (fun k => if_neg (by simp)) ?_
  refine Ev.bind hh ?_
  refine Ev.congr (fun k => if_neg (by omega)) ?_
  refine Ev.congr (fun k => if_pos rfl) ?_
  exact Ev.now _

theorem table_go (h e n : Nat) (hh : 1 ≤ h) (he : 1 ≤ e) (hE : e ≤ 10) (hn : n ≤ 200) (d : Nat) : ∀ m : Nat, m + d = n + 1 → Ev (fun k => spec_RoundTable.l0 k (e : Int) (h : Int) (n : Int) (Hand.tableL h e m) (m : Int)) (Hand.tableL h e (n + 1), true) := by
  induction d with
  | zero =>
    intro m hm
    obtain rfl : m = n + 1 := by omega
    refine Ev.step (f := fun _ => some (Hand.tableL h e (n + 1), true)) (fun k => ?_) (Ev.now _)
    simp only [spec_RoundTable.l0]
    rw [if_neg (by omega)]
  | succ d ih =>
    intro m hm
    have hw : wrap64 ((m : Int) + 1) = ((m + 1 : Nat) : Int) := wrap64_small (by omega) (by omega)
    have h1 := ih (m + 1) (by omega)
    rw [Hand.tableL_snoc] at h1
    refine Ev.step (f := fun k => (spec_roFew.f k (e : Int) (h : Int) (m : Int)).bind fun t => (if (Hand.tableL h e m).length < 17592186044416 then (spec_RoundTable.l0 k (e : Int) (h : Int) (n : Int) (Hand.tableL h e m ++ [t]) ((m + 1 : Nat) : Int)) else (none))) (fun k => ?_) (Ev.bind (roFew_ev h e (m : Int) hh he hE (by omega)) ?_)
    · simp only [spec_RoundTable.l0]
      rw [if_pos (by omega), hw]
    · exact Ev.congr (fun k => if_pos (by rw [Hand.tableL_len]; omega)) h1
theorem spec_ev (e h f : Int) : Ev (fun k => spec_RoundTable.f k e h f) (Hand.tableRes e h f) := by
  have hno : Ev (fun k => spec_RoundTable.j0 k e h f true) ([], false) := Ev.step (f := fun _ => some ([], false)) (fun k => by simp only [spec_RoundTable.j0]; exact if_pos trivial) (Ev.now _)
  unfold Hand.tableRes Hand.house
  cases h1 : Hand.inn e 1 10 with
  | false =>
    rw [Bool.false_and, Bool.false_and, if_ff]
    refine Ev.congr (fun k => ?_) hno
    unfold spec_RoundTable.f spec_roSize.f spec_flEggs.f
    rw [inn_some, h1, Option.bind_some, Option.bind_some, if_ff, Option.bind_some, if_ff]
  | true =>
    cases h2 : Hand.inn h 1 10 with
    | false =>
      rw [Bool.false_and, Bool.and_false, Bool.false_and, if_ff]
      refine Ev.congr (fun k => ?_) hno
      unfold spec_RoundTable.f spec_roSize.f spec_flEggs.f
      rw [inn_some, h1, Option.bind_some, Option.bind_some, if_pos rfl, inn_some, h2, Option.bind_some, Option.bind_some, if_ff]
    | true =>
      have hsz : spec_roSize.f e h = some true := by
        unfold spec_roSize.f spec_flEggs.f
        rw [inn_some, h1, Option.bind_some, Option.bind_some, if_pos rfl, inn_some, h2, Option.bind_some]
      rw [Bool.true_and, Bool.true_and]
      cases h3 : Hand.inn f 0 200 with
      | false =>
        have hb : (Hand.inn f 0 1000 && decide (f ≤ 200)) = false := by
          unfold Hand.inn at h3 ⊢
          by_cases c : f ≤ 200
          · simp [c] at h3 ⊢; omega
          · simp [c]
        rw [hb, if_ff]
        refine Ev.congr (fun k => ?_) hno
        unfold spec_RoundTable.f
        rw [hsz, Option.bind_some, if_pos rfl, inn_some, h3, Option.bind_some]
        rfl
      | true =>
        obtain ⟨e, rfl, he1, he2⟩ := Hand.inn_nat h1 (by omega)
        obtain ⟨h, rfl, hh1, hh2⟩ := Hand.inn_nat h2 (by omega)
        obtain ⟨n, rfl, hn1, hn2⟩ := Hand.inn_nat h3 (by omega)
        have hb : (Hand.inn (n : Int) 0 1000 && decide ((n : Int) ≤ 200)) = true := by unfold Hand.inn; simp; omega
        rw [hb, if_pos rfl]
        simp only [Int.toNat_natCast]
        refine Ev.congr (f := fun k => spec_RoundTable.j0 k (e : Int) (h : Int) (n : Int) false) (fun k => ?_) (Ev.step (fun k => ?_) (table_go h e n (by omega) (by omega) (by omega) (by omega) (n + 1) 0 (by omega)))
        · unfold spec_RoundTable.f
          rw [hsz, Option.bind_some, if_pos rfl, inn_some, h3, Option.bind_some]
          rfl
        · simp only [spec_RoundTable.j0]; rw [if_ff]; rfl
theorem res_len (e h f : Int) : (Hand.tableRes e h f).1.length < 1000000 := by
  unfold Hand.tableRes
  cases hc : Hand.house e h f && decide (f ≤ 200) with
  | false => rw [if_ff]; exact Nat.zero_lt_of_lt (Nat.lt_succ_self _)
  | true =>
    rw [Bool.and_eq_true] at hc
    have h2 := of_decide_eq_true hc.2
    rw [if_pos rfl]
    show (Hand.tableL _ _ _).length < 1000000
    rw [Hand.tableL_len]; omega
theorem FnExactRoundTable : laws_FnExactRoundTable.Pure := by
  intro a0 a1 a2 _ _ _
  exact law_of a0 a1 a2 _ _ (res_len a0 a1 a2) (spec_ev a0 a1 a2) (Ev.now _)

end Go.Proofs.Ytnolocmcjcjjcaa.Pure
