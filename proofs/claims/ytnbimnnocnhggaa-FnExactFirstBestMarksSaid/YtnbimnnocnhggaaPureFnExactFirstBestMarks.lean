/- The program's FirstBestMarks answers as the reference's does, for every floors; no conditions. -/
import Derived.Test.YtnbimnnocnhggaaQFnExactFirstBestMarksx2
namespace Go.Proofs.Ytnbimnnocnhggaa.Pure
open Go.RowKit Go.Proofs.Ytnbimnnocnhggaa.QFnExactFirstBestMarks Go.Proofs.YtnbimnnocnhggaaW.PrintWords Go.Proofs.YtnbimnnocnhggaaW.PrintLast
set_option linter.unusedVariables false

theorem wrap64_small {x : Int} (h0 : -9223372036854775808 ≤ x) (h1 : x < 9223372036854775808) : wrap64 x = x := by
  unfold wrap64; omega

theorem rd_set (l : List Int) (i : Nat) (v : Int) (j : Int) (hj : 0 ≤ j) (hi : i < l.length) : rd (l.set i v) j = if j = (i : Int) then v else rd l j := by
  unfold rd
  by_cases h : j = (i : Int)
  · subst h
    simp [hi]
  · rw [if_neg h]
    have : i ≠ j.toNat := by omega
    simp [List.getD_eq_getElem?_getD, this]

theorem l1In_some (a b c : Int) : spec_l1In.f a b c = some (decide (b ≤ a ∧ a ≤ c)) := by
  unfold spec_l1In.f
  by_cases h : a ≥ b
  · rw [if_pos h]; congr 1; rw [Bool.eq_iff_iff]; simp; omega
  · rw [if_neg h]; congr 1; symm; rw [decide_eq_false_iff_not]; omega

theorem l1Least_some (a b : Int) : spec_l1Least.f a b = some (min a b) := by
  unfold spec_l1Least.f
  split <;> (congr 1; omega)

/-- The row for t tests. -/
structure Row (e t : Nat) (x : List Int) : Prop where
  len : x.length = e + 1
  at_ : ∀ j : Int, 0 ≤ j → j ≤ e → rd x j = Hand.reach t j.toNat
/-- Cells above m hold the next row already. -/
structure Mixed (e t m : Nat) (x : List Int) : Prop where
  len : x.length = e + 1
  at_ : ∀ j : Int, 0 ≤ j → j ≤ e → rd x j = if j ≤ m then Hand.reach t j.toNat else Hand.reach (t + 1) j.toNat

theorem row_zero (e : Nat) : Row e 0 (List.replicate (e + 1) 0) := by
  refine ⟨by simp, fun j h0 h1 => ?_⟩
  rw [Hand.reach_zero]
  unfold rd
  simp only [List.getD_eq_getElem?_getD, List.getElem?_replicate]
  split <;> rfl

theorem mixed_start {e t : Nat} {x : List Int} (h : Row e t x) : Mixed e t e x := ⟨h.len, fun j h0 h1 => by rw [if_pos h1]; exact h.at_ j h0 h1⟩
theorem mixed_end {e t : Nat} {x : List Int} (h : Mixed e t 0 x) : Row e (t + 1) x := ⟨h.len, fun j h0 h1 => by
  rw [h.at_ j h0 h1]
  by_cases h2 : j ≤ ((0 : Nat) : Int)
  · obtain rfl : j = 0 := by omega
    rw [if_pos h2]
    show Hand.reach t 0 = Hand.reach (t + 1) 0
    rw [Hand.reach_none, Hand.reach_none]
  · rw [if_neg h2]⟩
theorem mixed_step {e t m : Nat} {x : List Int} (h : Mixed e t (m + 1) x) (hm : m + 1 ≤ e) :
    Mixed e t m (x.set (m + 1) (min (rd x (m : Int) + rd x ((m : Int) + 1) + 1) 1000000001)) := by
  refine ⟨by rw [List.length_set]; exact h.len, fun j h0 h1 => ?_⟩
  rw [rd_set _ _ _ _ h0 (by rw [h.len]; omega)]
  by_cases hj : j = ((m + 1 : Nat) : Int)
  · subst hj
    rw [if_pos rfl, if_neg (by omega), h.at_ (m : Int) (by omega) (by omega), h.at_ ((m : Int) + 1) (by omega) (by omega), if_pos (by omega), if_pos (by omega)]
    rw [show ((m + 1 : Nat) : Int).toNat = m + 1 by omega, show ((m : Int)).toNat = m by omega, show ((m : Int) + 1).toNat = m + 1 by omega]
    rw [Hand.reach]
    omega
  · rw [if_neg hj, h.at_ j h0 h1]
    by_cases h2 : j ≤ ((m + 1 : Nat) : Int)
    · rw [if_pos h2, if_pos (by omega)]
    · rw [if_neg h2, if_neg (by omega)]
theorem mixed_bd {e t m : Nat} {x : List Int} (h : Mixed e t m x) (j : Int) (h0 : 0 ≤ j) (h1 : j ≤ e) : 0 ≤ rd x j ∧ rd x j ≤ 1000000001 := by
  rw [h.at_ j h0 h1]
  split <;> exact Hand.reach_bd _ _

theorem l1In_yes {a b c : Int} (h : b ≤ a ∧ a ≤ c) : spec_l1In.f a b c = some true := by rw [l1In_some, decide_eq_true h]
theorem l1In_no {a b c : Int} (h : ¬ (b ≤ a ∧ a ≤ c)) : spec_l1In.f a b c = some false := by rw [l1In_some, decide_eq_false h]
theorem if_ff {α : Type} (x y : α) : (if false = true then x else y) = y := if_neg (by decide)

theorem inner_few (e : Nat) (he : e ≤ 10) (a1 x6 : Int) (h6 : 0 ≤ x6) (h6' : x6 < 1000000000) (t m : Nat) : ∀ (x : List Int), Mixed e t m x → m ≤ e →
    ∃ x', Row e (t + 1) x' ∧ ∀ r, Ev (fun k => spec_flFew.l0 k e a1 x' (x6 + 1)) r → Ev (fun k => spec_flFew.l1 k e a1 x x6 m) r := by
  induction m with
  | zero =>
    intro x hx _
    exact ⟨x, mixed_end hx, fun r hr => Ev.step (f := fun k => spec_flFew.l0 k e a1 x (x6 + 1)) (fun k => by simp only [spec_flFew.l1]; rw [if_neg (by omega), wrap64_small (by omega) (by omega)]) hr⟩
  | succ m ih =>
    intro x hx hm
    obtain ⟨x', h1, h2⟩ := ih _ (mixed_step hx hm) (by omega)
    refine ⟨x', h1, fun r hr => Ev.step (f := fun k => spec_flFew.l1 k e a1 (x.set (m + 1) (min (rd x (m : Int) + rd x ((m : Int) + 1) + 1) 1000000001)) x6 m) (fun k => ?_) (h2 r hr)⟩
    have b1 := mixed_bd hx (m : Int) (by omega) (by omega)
    have b2 := mixed_bd hx ((m : Int) + 1) (by omega) (by omega)
    have hl := hx.len
    have e1 : wrap64 (((m + 1 : Nat) : Int) - 1) = m := by rw [wrap64_small (by omega) (by omega)]; omega
    have e2 : ((m + 1 : Nat) : Int) = (m : Int) + 1 := by omega
    simp only [spec_flFew.l1]
    rw [if_pos (by omega), e1, if_pos (by omega), if_pos (by omega), if_pos (by omega), if_pos (by omega), e2, wrap64_small (x := rd x (m : Int) + rd x ((m : Int) + 1)) (by omega) (by omega), wrap64_small (by omega) (by omega), l1Least_some, Option.bind_some,
      show ((m : Int) + 1).toNat = m + 1 by omega]

theorem few_l0 (e : Nat) (he : e ≤ 10) (n : Int) (T : Nat) (hT : T ≤ 1000) (hF : Hand.IsFew e n T) (d : Nat) : ∀ (t : Nat) (x : List Int), Row e t x → t + d = T → Ev (fun k => spec_flFew.l0 k e n x t) T := by
  induction d with
  | zero =>
    intro t x hx ht
    obtain rfl : t = T := by omega
    have hl := hx.len
    have := hF.1
    refine Ev.step (f := fun _ => some (t : Int)) (fun k => ?_) (Ev.now _)
    simp only [spec_flFew.l0]
    rw [if_pos (by omega), if_pos (by omega), hx.at_ e (by omega) (by omega), Int.toNat_natCast, if_neg (by omega)]
  | succ d ih =>
    intro t x hx ht
    have hl := hx.len
    have := hF.2 t (by omega)
    obtain ⟨x', h1, h2⟩ := inner_few e he n t (by omega) (by omega) t e x (mixed_start hx) (Nat.le_refl _)
    refine Ev.step (f := fun k => spec_flFew.l1 k e n x t e) (fun k => ?_) (h2 _ ?_)
    · simp only [spec_flFew.l0]; rw [if_pos (by omega), if_pos (by omega), hx.at_ e (by omega) (by omega), Int.toNat_natCast, if_pos this]
    · have := ih (t + 1) x' h1 (by omega)
      rw [show ((t + 1 : Nat) : Int) = (t : Int) + 1 by omega] at this
      exact this
theorem flFew_ev (e : Nat) (he1 : 1 ≤ e) (he : e ≤ 10) (n : Int) (hn : n ≤ 1000) : Ev (fun k => spec_flFew.f k e n) (Hand.fewT e n) := by
  have hs := Hand.fewT_spec e he1 n hn
  refine Ev.congr (f := fun k => spec_flFew.l0 k e n (List.replicate (e + 1) 0) (0 : Nat)) (fun k => ?_) (few_l0 e he n _ hs.1 hs.2 (Hand.fewT e n) 0 _ (row_zero e) (by omega))
  unfold spec_flFew.f
  have e1 : wrap64 ((e : Int) + 1) = (e : Int) + 1 := wrap64_small (by omega) (by omega)
  rw [e1, if_pos (by omega), if_pos (by omega), show ((e : Int) + 1).toNat = e + 1 by omega]; rfl

theorem within_some (a b c : Int) : impl_within.f a b c = some (decide (b ≤ a ∧ a ≤ c)) := by
  unfold impl_within.f
  by_cases h : a ≥ b
  · rw [if_pos h]; congr 1; rw [Bool.eq_iff_iff]; simp; omega
  · rw [if_neg h]; congr 1; symm; rw [decide_eq_false_iff_not]; omega
theorem within_yes {a b c : Int} (h : b ≤ a ∧ a ≤ c) : impl_within.f a b c = some true := by rw [within_some, decide_eq_true h]
theorem within_no {a b c : Int} (h : ¬ (b ≤ a ∧ a ≤ c)) : impl_within.f a b c = some false := by rw [within_some, decide_eq_false h]

theorem eqIntS_l0 (l : List Int) (hl : l.length < 1000000000000) (d : Nat) : ∀ (i : Int), 0 ≤ i → i ≤ l.length → (l.length : Int) - i = d → Ev (fun k => laws_eqIntS.l0 k l l i) true := by
  induction d with
  | zero =>
    intro i h0 h1 hd
    exact Ev.step (f := fun _ => some true) (fun k => by simp only [laws_eqIntS.l0]; rw [if_neg (by omega)]) (Ev.now _)
  | succ d ih =>
    intro i h0 h1 hd
    have hlt : i < (l.length : Int) := by omega
    have hw : wrap64 (i + 1) = i + 1 := wrap64_small (by omega) (by omega)
    exact Ev.step (f := fun k => laws_eqIntS.l0 k l l (i + 1)) (fun k => by simp only [laws_eqIntS.l0]; rw [if_pos hlt, if_pos h0, if_pos hlt, if_pos trivial, hw]) (ih (i + 1) (by omega) (by omega) (by omega))

theorem eqIntS_self (l : List Int) (hl : l.length < 1000000000000) : Ev (fun k => laws_eqIntS.f k l l) true :=
  Ev.congr (f := fun k => laws_eqIntS.l0 k l l 0) (fun k => by unfold laws_eqIntS.f; rw [if_pos rfl]) (eqIntS_l0 l hl l.length 0 (by omega) (by omega) (by omega))

theorem markIntS_l0 (n : Nat) (hn : n < 1000000000000) (a : Int) (ha0 : 0 ≤ a) (ha1 : a < 1000000000000) (d : Nat) : ∀ (x : List Int) (i : Int), x.length = n → 0 ≤ i → i ≤ n → (n : Int) - i = d → (∀ j : Int, 0 ≤ j → j < i → rd x j = a + j) →
    ∃ r, Ev (fun k => laws_markIntS.l0 k x (a + i) i) (a + n, r) ∧ r.length = n ∧ ∀ j : Int, 0 ≤ j → j < n → rd r j = a + j := by
  induction d with
  | zero =>
    intro x i hx h0 h1 hd hj
    have hi : i = n := by omega
    subst hi
    exact ⟨x, Ev.step (f := fun _ => some (a + n, x)) (fun k => by simp only [laws_markIntS.l0]; rw [if_neg (by omega)]) (Ev.now _), hx, hj⟩
  | succ d ih =>
    intro x i hx h0 h1 hd hj
    have hlt : i < (x.length : Int) := by omega
    have hw : wrap64 (i + 1) = i + 1 := wrap64_small (by omega) (by omega)
    have hw2 : wrap64 (a + i + 1) = a + (i + 1) := by rw [wrap64_small (by omega) (by omega)]; omega
    obtain ⟨r, hr, hl, hv⟩ := ih (x.set i.toNat (a + i)) (i + 1) (by simp [hx]) (by omega) (by omega) (by omega) (fun j h0j hji => by
      rw [rd_set _ _ _ _ h0j (by omega)]
      by_cases e : j = (i.toNat : Int)
      · rw [if_pos e]; omega
      · rw [if_neg e]; exact hj j h0j (by omega))
    exact ⟨r, Ev.step (f := fun k => laws_markIntS.l0 k (x.set i.toNat (a + i)) (a + (i + 1)) (i + 1)) (fun k => by simp only [laws_markIntS.l0]; rw [if_pos hlt, if_pos h0, hw, hw2]) hr, hl, hv⟩

theorem heldIntS_l0 (r : List Int) (hn : r.length < 1000000000000) (a : Int) (ha0 : 0 ≤ a) (ha1 : a < 1000000000000) (hv : ∀ j : Int, 0 ≤ j → j < r.length → rd r j = a + j) (d : Nat) : ∀ (i : Int), 0 ≤ i → i ≤ r.length → (r.length : Int) - i = d →
    Ev (fun k => laws_heldIntS.l0 k r (a + i) i) (a + r.length) := by
  induction d with
  | zero =>
    intro i h0 h1 hd
    have hi : i = r.length := by omega
    subst hi
    exact Ev.step (f := fun _ => some (a + r.length)) (fun k => by simp only [laws_heldIntS.l0]; rw [if_neg (by omega)]) (Ev.now _)
  | succ d ih =>
    intro i h0 h1 hd
    have hlt : i < (r.length : Int) := by omega
    have hw : wrap64 (i + 1) = i + 1 := wrap64_small (by omega) (by omega)
    have hw2 : wrap64 (a + i + 1) = a + (i + 1) := by rw [wrap64_small (by omega) (by omega)]; omega
    exact Ev.step (f := fun k => laws_heldIntS.l0 k r (a + (i + 1)) (i + 1)) (fun k => by simp only [laws_heldIntS.l0]; rw [if_pos hlt, if_pos h0, if_pos (hv i h0 hlt), hw, hw2]) (ih (i + 1) (by omega) (by omega) (by omega))

theorem mark_held (l : List Int) (hl : l.length < 1000000000) : ∃ r, Ev (fun k => laws_markIntS.f k l 101) (101 + (l.length : Int), r) ∧ Ev (fun k => laws_heldIntS.f k r 101) (101 + (l.length : Int)) ∧ r.length = l.length := by
  obtain ⟨r, h1, h2, h3⟩ := markIntS_l0 l.length (by omega) 101 (by omega) (by omega) l.length l 0 rfl (by omega) (by omega) (by omega) (fun j _ _ => by omega)
  refine ⟨r, h1, ?_, h2⟩
  have := heldIntS_l0 r (by omega) 101 (by omega) (by omega) (fun j h0 h1 => h3 j h0 (by omega)) r.length 0 (by omega) (by omega) (by omega)
  rw [h2] at this
  exact this

theorem law_of (a0 : Int) (l : List Int) (b : Bool) (hl : l.length < 1000000) (hs : Ev (fun k => spec_FirstBestMarks.f k a0) (l, b)) (hi : Ev (fun k => impl_FirstBestMarks.f k a0) (l, b)) : ∃ k, laws_FnExactFirstBestMarks.f k a0 = some true := by
  obtain ⟨r, hm, hh, hrl⟩ := mark_held l (by omega)
  have heq := eqIntS_self l (by omega)
  apply Ev.rounds
  unfold laws_FnExactFirstBestMarks.f
  refine Ev.bind hs ?_
  refine Ev.bind hi ?_
  refine Ev.bind heq ?_
  simp only [if_true, bne_self_eq_false]
  refine Ev.step (fun k => by simp only [laws_FnExactFirstBestMarks.j0]; rfl) ?_
  simp only [Bool.false_eq_true, if_false]
  refine Ev.bind hm ?_
  refine Ev.bind hh ?_
  simp only [show ¬ ((101 : Int) + (l.length : Int) < 0) by omega, if_false, if_true]
  refine Ev.bind hi ?_
  refine Ev.bind heq ?_
  simp only [if_true, bne_self_eq_false]
  refine Ev.step (fun k => by simp only [laws_FnExactFirstBestMarks.j1]; rfl) ?_
  simp only [Bool.false_eq_true, if_false]
  refine Ev.bind hh ?_
  simp only [show ¬ ((101 : Int) + (l.length : Int) < 0) by omega, if_false, if_true]
  exact Ev.now _

/-- 1 + 2 + .. + t. -/
def tri : Nat → Nat
  | 0 => 0
  | t + 1 => tri t + (t + 1)
theorem tri_two (t : Nat) : t * (t + 1) = 2 * tri t := by
  induction t with
  | zero => rfl
  | succ t ih => rw [tri, Nat.mul_add 2, ← ih, Nat.add_mul, Nat.mul_add, Nat.mul_add]; omega
theorem tri_bd (t : Nat) (h : t ≤ 1000) : tri t ≤ 500500 := by
  have := tri_two t
  have h2 : t * (t + 1) ≤ 1000 * 1001 := Nat.mul_le_mul h (by omega)
  omega
theorem tri_ge (t : Nat) : t ≤ tri t := by cases t with
  | zero => exact Nat.le_refl _
  | succ t => rw [tri]; omega
theorem tri_go (t : Nat) (h : t ≤ 1000) : wrap64 (Int.tdiv (wrap64 ((t : Int) * (wrap64 ((t : Int) + 1)))) 2) = tri t := by
  have hb := tri_bd t h
  rw [wrap64_small (x := (t : Int) + 1) (by omega) (by omega)]
  have e : (t : Int) * ((t : Int) + 1) = ((2 * tri t : Nat) : Int) := by rw [← tri_two]; simp
  rw [e, wrap64_small (x := ((2 * tri t : Nat) : Int)) (by omega) (by omega), Int.tdiv_eq_ediv_of_nonneg (by omega), wrap64_small (by omega) (by omega)]
  omega
theorem reach_one (t : Nat) (h : t ≤ 1000) : Hand.reach t 1 = t := by
  induction t with
  | zero => rfl
  | succ t ih => rw [Hand.reach, ih (by omega), Hand.reach_none]; omega
theorem reach_two (t : Nat) (h : t ≤ 1000) : Hand.reach t 2 = tri t := by
  induction t with
  | zero => rfl
  | succ t ih =>
    have := tri_bd t (by omega)
    rw [Hand.reach, ih (by omega), reach_one t (by omega), tri]; omega

def greedy (n : Int) : Nat → Int → List Int
  | 0, _ => []
  | t + 1, m => if n - m ≤ ((t + 1 : Nat) : Int) then [] else max (m + 1) (n - tri t) :: greedy n t (max (m + 1) (n - tri t))
theorem greedy_len (n : Int) (t : Nat) : ∀ m, (greedy n t m).length ≤ t := by
  induction t with
  | zero => intro m; simp [greedy]
  | succ t ih =>
    intro m
    have := ih (max (m + 1) (n - tri t))
    unfold greedy
    split
    · simp
    · simp; omega

theorem first_yes (n : Int) (hn : n ≤ 100) (t : Nat) : ∀ (m : Int), t ≤ 1000 → 0 ≤ m → m ≤ n →
    (n - m ≤ tri t → Ev (fun k => spec_stFirst.f k n m t) (greedy n t m, true)) ∧ (tri t < n - m → Ev (fun k => spec_stFirst.f k n m t) ([], false)) := by
  induction t with
  | zero =>
    intro m ht h0 h1
    have ht0 : ((tri 0 : Nat) : Int) = 0 := rfl
    have e1 : wrap64 (n - m) = n - m := wrap64_small (by omega) (by omega)
    refine ⟨fun h => ?_, fun h => ?_⟩
    · refine Ev.step (f := fun _ => some ([], true)) (fun k => ?_) (Ev.now _)
      simp only [spec_stFirst.f]; rw [e1, if_pos (by omega)]
    · refine Ev.step (f := fun _ => some ([], false)) (fun k => ?_) (Ev.now _)
      simp only [spec_stFirst.f]; rw [e1, if_neg (by omega), tri_go 0 (by omega), if_pos (by omega)]
  | succ t ih =>
    intro m ht h0 h1
    have e1 : wrap64 (n - m) = n - m := wrap64_small (by omega) (by omega)
    have hb := tri_bd t (by omega)
    have hg := tri_ge t
    have htr : ((tri (t + 1) : Nat) : Int) = tri t + (t + 1) := by rw [tri]; omega
    refine ⟨fun h => ?_, fun h => ?_⟩
    · by_cases hc : n - m ≤ ((t + 1 : Nat) : Int)
      · refine Ev.step (f := fun _ => some (greedy n (t + 1) m, true)) (fun k => ?_) (Ev.now _)
        simp only [spec_stFirst.f]; rw [e1, if_pos hc, greedy, if_pos hc]
      · have hgr : greedy n (t + 1) m = max (m + 1) (n - tri t) :: greedy n t (max (m + 1) (n - tri t)) := by rw [greedy, if_neg hc]
        refine Ev.step (f := fun k => spec_stFirst.l0 k n m ((t + 1 : Nat) : Int) (m + 1)) (fun k => ?_) ?_
        · simp only [spec_stFirst.f]; rw [e1, if_neg hc, tri_go (t + 1) ht, if_neg (by omega), wrap64_small (x := m + 1) (by omega) (by omega)]
        · rw [hgr]
          have loop : ∀ (d : Nat) (s : Int), m + 1 ≤ s → max (m + 1) (n - tri t) - s = d → Ev (fun k => spec_stFirst.l0 k n m ((t + 1 : Nat) : Int) s) (max (m + 1) (n - tri t) :: greedy n t (max (m + 1) (n - tri t)), true) := by
            intro d
            induction d with
            | zero =>
              intro s hs hd
              obtain rfl : s = max (m + 1) (n - tri t) := by omega
              generalize hM : max (m + 1) (n - (tri t : Int)) = M at *
              have hi := (ih M (by omega) (by omega) (by omega)).1 (by omega)
              have hlen := greedy_len n t M
              refine Ev.step (f := fun k => spec_stFirst.j1 k n m ((t + 1 : Nat) : Int) M true) (fun k => ?_) ?_
              · simp only [spec_stFirst.l0]; rw [if_pos (by omega), wrap64_small (by omega) (by omega), decide_eq_true (by omega)]
              · refine Ev.step (f := fun k => (spec_stFirst.f k n M t).bind fun bt114 => (if bt114.2 = true then ((some (([M] : List Int) : List Int)).bind fun y118 => (if y118.length + bt114.1.length < 17592186044416 then (some ((y118 ++ bt114.1), true)) else (none))) else (spec_stFirst.l0 k n m ((t + 1 : Nat) : Int) (wrap64 (M + 1))))) (fun k => ?_) (Ev.bind hi ?_)
                · simp only [spec_stFirst.j1]; rw [if_pos trivial, wrap64_small (by omega) (by omega), show ((t + 1 : Nat) : Int) - 1 = t by omega]
                · refine Ev.congr (f := fun _ => some (M :: greedy n t M, true)) (fun k => ?_) (Ev.now _)
                  rw [if_pos rfl, Option.bind_some, if_pos (by show [M].length + (greedy n t M).length < _; rw [List.length_cons, List.length_nil]; omega)]; rfl
            | succ d ihd =>
              intro s hs hd
              have hi := (ih s (by omega) (by omega) (by omega)).2 (by omega)
              have hnext := ihd (s + 1) (by omega) (by omega)
              refine Ev.step (f := fun k => spec_stFirst.j1 k n m ((t + 1 : Nat) : Int) s true) (fun k => ?_) ?_
              · simp only [spec_stFirst.l0]; rw [if_pos (by omega), wrap64_small (by omega) (by omega), decide_eq_true (by omega)]
              · refine Ev.step (f := fun k => (spec_stFirst.f k n s t).bind fun bt114 => (if bt114.2 = true then ((some (([s] : List Int) : List Int)).bind fun y118 => (if y118.length + bt114.1.length < 17592186044416 then (some ((y118 ++ bt114.1), true)) else (none))) else (spec_stFirst.l0 k n m ((t + 1 : Nat) : Int) (wrap64 (s + 1))))) (fun k => ?_) (Ev.bind hi ?_)
                · simp only [spec_stFirst.j1]; rw [if_pos trivial, wrap64_small (by omega) (by omega), show ((t + 1 : Nat) : Int) - 1 = t by omega]
                · refine Ev.congr (f := fun k => spec_stFirst.l0 k n m ((t + 1 : Nat) : Int) (s + 1)) (fun k => ?_) hnext
                  rw [if_ff, wrap64_small (by omega) (by omega)]
          exact loop _ (m + 1) (by omega) (by rw [Int.toNat_of_nonneg]; omega)
    · refine Ev.step (f := fun _ => some ([], false)) (fun k => ?_) (Ev.now _)
      simp only [spec_stFirst.f]; rw [e1, if_neg (by omega), tri_go (t + 1) ht, if_pos (by omega)]

theorem greedy_go (n : Int) (hn : n ≤ 100) (t : Nat) : ∀ (m : Int) (x : List Int), t ≤ 1000 → 0 ≤ m → m ≤ n → n - m ≤ tri t → x.length + t ≤ 1000 → Ev (fun k => impl_FirstBestMarks.l0 k n x m t) (x ++ greedy n t m, true) := by
  induction t with
  | zero =>
    intro m x ht h0 h1 h hl
    have ht0 : ((tri 0 : Nat) : Int) = 0 := rfl
    rw [greedy, List.append_nil]
    refine Ev.step (f := fun _ => some (x, true)) (fun k => ?_) (Ev.now _)
    simp only [impl_FirstBestMarks.l0]; rw [wrap64_small (x := n - m) (by omega) (by omega), if_neg (by omega)]
  | succ t ih =>
    intro m x ht h0 h1 h hl
    have hb := tri_bd t (by omega)
    have htr : ((tri (t + 1) : Nat) : Int) = tri t + (t + 1) := by rw [tri]; omega
    by_cases hc : n - m ≤ ((t + 1 : Nat) : Int)
    · rw [greedy, if_pos hc, List.append_nil]
      refine Ev.step (f := fun _ => some (x, true)) (fun k => ?_) (Ev.now _)
      simp only [impl_FirstBestMarks.l0]; rw [wrap64_small (x := n - m) (by omega) (by omega), if_neg (by omega)]
    · rw [greedy, if_neg hc]
      have e2 : wrap64 (((t + 1 : Nat) : Int) - 1) = t := by rw [wrap64_small (by omega) (by omega)]; omega
      have e3 : wrap64 (m + 1) = m + 1 := wrap64_small (by omega) (by omega)
      have e4 : mx (m + 1) (n - (tri t : Int)) = max (m + 1) (n - tri t) := by unfold mx; omega
      generalize hM : max (m + 1) (n - (tri t : Int)) = M at *
      have := ih M (x ++ [M]) (by omega) (by omega) (by omega) (by omega) (by simp; omega)
      rw [List.append_assoc] at this
      refine Ev.step (f := fun k => impl_FirstBestMarks.l0 k n (x ++ [M]) M t) (fun k => ?_) this
      simp only [impl_FirstBestMarks.l0]
      rw [wrap64_small (x := n - m) (by omega) (by omega), if_pos (by omega), if_pos (by omega), e2, e3, tri_go t (by omega), wrap64_small (x := n - (tri t : Int)) (by omega) (by omega), e4]

theorem FnExactFirstBestMarks : laws_FnExactFirstBestMarks.Pure := by
  intro a0 _
  by_cases h : 0 ≤ a0 ∧ a0 ≤ 100
  · have hs := Hand.fewT_spec 2 (by omega) a0 (by omega)
    have hr := hs.2.1
    rw [reach_two _ hs.1] at hr
    have hlen := greedy_len a0 (Hand.fewT 2 a0) 0
    refine law_of a0 (greedy a0 (Hand.fewT 2 a0) 0) true (by omega) ?_ ?_
    · refine Ev.congr (f := fun k => (spec_flFew.f k (2 : Nat) a0).bind fun t125 => ((spec_stFirst.f k a0 0 t125).bind fun bt126 => (some (bt126.1, true)))) (fun k => ?_) (Ev.bind (flFew_ev 2 (by omega) (by omega) a0 (by omega)) (Ev.bind ((first_yes a0 h.2 _ 0 hs.1 (by omega) h.1).1 (by omega)) (Ev.now _)))
      unfold spec_FirstBestMarks.f spec_stFloors.f
      rw [l1In_yes h, Option.bind_some, Option.bind_some, if_pos rfl]; rfl
    · have hg := greedy_go a0 h.2 (Hand.fewT 2 a0) 0 [] hs.1 (by omega) h.1 (by omega) (by simp; omega)
      rw [List.nil_append] at hg
      refine Ev.congr (f := fun k => impl_FirstBestMarks.l0 k a0 ([] : List Int) 0 (Hand.fewT 2 a0)) (fun k => ?_) hg
      unfold impl_FirstBestMarks.f impl_isMarked.f impl_leastWorst.f
      rw [within_yes h, Option.bind_some, Option.bind_some, if_pos rfl, if_pos (by omega), Option.bind_some]
  · refine law_of a0 [] false (by simp) ?_ ?_
    · refine Ev.congr (f := fun k => some ([], false)) (fun k => ?_) (Ev.now _)
      unfold spec_FirstBestMarks.f spec_stFloors.f
      rw [l1In_no h, Option.bind_some, Option.bind_some, if_ff]
    · refine Ev.congr (f := fun k => some ([], false)) (fun k => ?_) (Ev.now _)
      unfold impl_FirstBestMarks.f impl_isMarked.f
      rw [within_no h, Option.bind_some, Option.bind_some, if_ff]

end Go.Proofs.Ytnbimnnocnhggaa.Pure
