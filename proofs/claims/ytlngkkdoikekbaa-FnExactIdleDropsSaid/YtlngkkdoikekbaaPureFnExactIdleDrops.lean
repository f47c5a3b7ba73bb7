/- The program's IdleDrops answers as the reference's does, in memory of its own, and leaves the row that it is given alone, for every number and list; no conditions. -/
import Derived.Test.YtlngkkdoikekbaaQFnExactIdleDropsx5
namespace Go.Proofs.Ytlngkkdoikekbaa.Pure
open Go.RowKit Go.Proofs.Ytlngkkdoikekbaa.QFnExactIdleDrops Go.Proofs.YtlngkkdoikekbaaW.PrintWords Go.Proofs.YtlngkkdoikekbaaW.PrintLast Go.Proofs.YtlngkkdoikekbaaW.PrintMore
set_option linter.unusedVariables false

theorem wrap64_small {x : Int} (h0 : -9223372036854775808 ≤ x) (h1 : x < 9223372036854775808) : wrap64 x = x := by
  unfold wrap64; omega
theorem l1In_some (a b c : Int) : spec_l1In.f a b c = some (decide (b ≤ a ∧ a ≤ c)) := by
  unfold spec_l1In.f
  by_cases h : a ≥ b
  · rw [if_pos h]; congr 1; rw [Bool.eq_iff_iff]; simp; omega
  · rw [if_neg h]; congr 1; symm; rw [decide_eq_false_iff_not]; omega
theorem l1In_yes {a b c : Int} (h : b ≤ a ∧ a ≤ c) : spec_l1In.f a b c = some true := by rw [l1In_some, decide_eq_true h]
theorem l1In_no {a b c : Int} (h : ¬ (b ≤ a ∧ a ≤ c)) : spec_l1In.f a b c = some false := by rw [l1In_some, decide_eq_false h]
theorem if_ff {α : Type} (x y : α) : (if false = true then x else y) = y := if_neg (by decide)

theorem inn_dec (a b c : Int) : Hand.inn a b c = decide (b ≤ a ∧ a ≤ c) := by unfold Hand.inn; rw [Bool.decide_and]
theorem inn_some (a b c : Int) : spec_l1In.f a b c = some (Hand.inn a b c) := by rw [l1In_some, inn_dec]
theorem rd_nat (l : List Int) (i : Nat) (h : i < l.length) : rd l (i : Int) = l[i] := by unfold rd; simp [h]

theorem rd_set (l : List Int) (i : Nat) (v : Int) (j : Int) (hj : 0 ≤ j) (hi : i < l.length) : rd (l.set i v) j = if j = (i : Int) then v else rd l j := by
  unfold rd
  by_cases h : j = (i : Int)
  · subst h
    simp [hi]
  · rw [if_neg h]
    have : i ≠ j.toNat := by omega
    simp [List.getD_eq_getElem?_getD, this]

theorem rd66_nat (l : List S66) (i : Nat) (h : i < l.length) : rd_T66 l (i : Int) = l[i] := by unfold rd_T66; simp [h]
theorem flDrops_go (l : List S66) (b : Int) (hl : l.length < 1000000000000) (d : Nat) : ∀ (i : Nat), i + d = l.length → Ev (fun k => spec_flDrops.l0 k b l (l.length : Int) (i : Int)) (!((l.drop i).any fun x => !(Hand.inn x.f0 1 b))) := by
  induction d with
  | zero =>
    intro i hi
    refine Ev.step (f := fun _ => some true) (fun k => ?_) ?_
    · simp only [spec_flDrops.l0]; rw [if_neg (by omega)]
    · rw [List.drop_eq_nil_of_le (by omega)]; exact Ev.now _
  | succ d ih =>
    intro i hi
    have hlt : i < l.length := by omega
    have hw : wrap64 ((i : Int) + 1) = ((i + 1 : Nat) : Int) := wrap64_small (by omega) (by omega)
    rw [List.drop_eq_getElem_cons hlt, List.any_cons]
    cases hc : Hand.inn l[i].f0 1 b with
    | true =>
      refine Ev.step (f := fun k => spec_flDrops.l0 k b l (l.length : Int) ((i + 1 : Nat) : Int)) (fun k => ?_) (by rw [Bool.not_true, Bool.false_or]; exact ih (i + 1) (by omega))
      simp only [spec_flDrops.l0]
      rw [if_pos (by omega), if_pos (by omega), if_pos (by omega), rd66_nat l i hlt, inn_some, hc, Option.bind_some, if_pos rfl, hw]
    | false =>
      refine Ev.step (f := fun _ => some false) (fun k => ?_) (by rw [Bool.not_false, Bool.true_or]; exact Ev.now _)
      simp only [spec_flDrops.l0]
      rw [if_pos (by omega), if_pos (by omega), if_pos (by omega), rd66_nat l i hlt, inn_some, hc, Option.bind_some, if_ff]
def tup (x : S66) : Int × Bool := (x.f0, x.f1)
theorem flFloors_some (a : Int) : spec_flFloors.f a = some (Hand.inn a 0 1000) := by unfold spec_flFloors.f; rw [inn_some, Option.bind_some]
theorem flDrops_ev (b : Int) (l : List S66) (hl : l.length < 1000000000000) : Ev (fun k => spec_flDrops.f k b l) (Hand.aDrop b (l.map tup)) := by
  unfold Hand.aDrop
  rw [List.length_map, List.any_map]
  cases hc : Hand.inn b 0 1000 with
  | true =>
    by_cases h : l.length ≤ 1000
    · rw [decide_eq_true h, Bool.and_true, Bool.true_and]
      refine Ev.congr (f := fun k => spec_flDrops.j0 k b l false) (fun k => ?_) (Ev.step (f := fun k => spec_flDrops.l0 k b l (l.length : Int) ((0 : Nat) : Int)) (fun k => ?_) (flDrops_go l b hl l.length 0 (by omega)))
      · unfold spec_flDrops.f
        rw [flFloors_some, hc, Option.bind_some, if_pos rfl, show decide ((l.length : Int) > 1000) = false from decide_eq_false (by omega)]
      · simp only [spec_flDrops.j0]; rw [if_ff]; rfl
    · rw [decide_eq_false h, Bool.and_false, Bool.false_and]
      refine Ev.congr (f := fun k => spec_flDrops.j0 k b l true) (fun k => ?_) (Ev.step (f := fun _ => some false) (fun k => ?_) (Ev.now _))
      · unfold spec_flDrops.f
        rw [flFloors_some, hc, Option.bind_some, if_pos rfl, show decide ((l.length : Int) > 1000) = true from decide_eq_true (by omega)]
      · simp only [spec_flDrops.j0]; exact if_pos trivial
  | false =>
    rw [Bool.false_and, Bool.false_and]
    refine Ev.congr (f := fun k => spec_flDrops.j0 k b l true) (fun k => ?_) (Ev.step (f := fun _ => some false) (fun k => ?_) (Ev.now _))
    · unfold spec_flDrops.f
      rw [flFloors_some, hc, Option.bind_some, if_ff]
    · simp only [spec_flDrops.j0]; exact if_pos trivial
theorem areDrops_ev (b : Int) (l : List S66) (hl : l.length < 1000000000000) : Ev (fun k => impl_AreDrops.f k b l) (Hand.aDrop b (l.map tup)) := Ev.now _
theorem szDrop_ev (l : List S68) (h : l.length ≤ 1000000) : laws_szDropS.f l 1000000 = some (1000000 - (l.length : Int)) := by
  unfold laws_szDropS.f
  have e : wrap64 (1000000 - (l.length : Int)) = 1000000 - (l.length : Int) := wrap64_small (by omega) (by omega)
  rw [e, if_neg (by omega)]
theorem szDrop_big (l : List S68) (h : ¬ l.length ≤ 1000000) (hm : l.length ≤ 9223372036854775807) : laws_szDropS.f l 1000000 = some (-1) := by
  unfold laws_szDropS.f
  have e : wrap64 (1000000 - (l.length : Int)) = 1000000 - (l.length : Int) := wrap64_small (by omega) (by omega)
  rw [e, if_pos (by omega)]

theorem l1Least_mn (a b : Int) : spec_l1Least.f a b = some (mn a b) := by
  unfold spec_l1Least.f mn
  by_cases h : a < b
  · rw [if_pos h, if_neg (by omega)]
  · rw [if_neg h]
    by_cases h2 : b < a
    · rw [if_pos h2]
    · rw [if_neg h2]; congr 1; omega
theorem l1Most_mx (a b : Int) : spec_l1Most.f a b = some (mx a b) := by
  unfold spec_l1Most.f mx
  by_cases h : a > b
  · rw [if_pos h, if_neg (by omega)]
  · rw [if_neg h]
    by_cases h2 : a < b
    · rw [if_pos h2]
    · rw [if_neg h2]; congr 1; omega
theorem flOpen_same : ∀ (k : Nat) (lo hi : Int) (l : List S66) (n i : Int), spec_flOpen.l0 k lo hi l n i = impl_open.l0 k lo hi l n i
  | 0, _, _, _, _, _ => rfl
  | k + 1, lo, hi, l, n, i => by
    simp only [spec_flOpen.l0, impl_open.l0, l1Least_mn, l1Most_mx, Option.bind_some, flOpen_same k]
theorem open_ends (l : List S66) (hl : l.length < 1000000000000) (d : Nat) : ∀ (i : Nat) (lo hi : Int), i + d = l.length → ∃ r, Ev (fun k => impl_open.l0 k lo hi l (l.length : Int) (i : Int)) r := by
  induction d with
  | zero =>
    intro i lo hi h
    exact ⟨(lo, hi), Ev.step (f := fun _ => some (lo, hi)) (fun k => by simp only [impl_open.l0]; rw [if_neg (by omega)]) (Ev.now _)⟩
  | succ d ih =>
    intro i lo hi h
    have hw : wrap64 ((i : Int) + 1) = ((i + 1 : Nat) : Int) := wrap64_small (by omega) (by omega)
    by_cases c : (rd_T66 l (i : Int)).f1 = true
    · obtain ⟨r, hr⟩ := ih (i + 1) lo (mn hi (wrap64 ((rd_T66 l (i : Int)).f0 - 1))) (by omega)
      exact ⟨r, Ev.step (fun k => by simp only [impl_open.l0]; rw [if_pos (by omega), if_pos (by omega), if_pos (by omega), if_pos c, hw]) hr⟩
    · obtain ⟨r, hr⟩ := ih (i + 1) (mx lo ((rd_T66 l (i : Int)).f0)) hi (by omega)
      exact ⟨r, Ev.step (fun k => by simp only [impl_open.l0]; rw [if_pos (by omega), if_pos (by omega), if_pos (by omega), if_neg c, hw]) hr⟩
theorem open_both (a : Int) (l : List S66) (hl : l.length < 1000000000000) : ∃ r, Ev (fun k => impl_open.f k a l) r ∧ Ev (fun k => spec_flOpen.f k a l) r := by
  obtain ⟨r, hr⟩ := open_ends l hl l.length 0 0 a (by omega)
  exact ⟨r, hr, Ev.congr (fun k => by unfold spec_flOpen.f; rw [flOpen_same]; rfl) hr⟩

theorem law_both (a : Int) (l : List S66) (hl : l.length < 1000000000000) : ∃ r, Ev (fun k => spec_LeftOpen.f k a l) r ∧ Ev (fun k => impl_LeftOpen.f k a l) r := by
  have hs := flDrops_ev a l hl
  have hi := areDrops_ev a l hl
  cases hc : Hand.aDrop a (l.map tup) with
  | true =>
    rw [hc] at hs hi
    obtain ⟨o, h1, h2⟩ := open_both a l hl
    by_cases c : o.1 > o.2
    · refine ⟨(0, 0, false), ?_, ?_⟩
      · unfold spec_LeftOpen.f; exact Ev.bind hs (Ev.congr (fun k => if_pos rfl) (Ev.bind h2 (Ev.congr (fun k => if_pos c) (Ev.now _))))
      · unfold impl_LeftOpen.f; exact Ev.bind hi (Ev.congr (fun k => if_pos rfl) (Ev.bind h1 (Ev.congr (fun k => if_pos c) (Ev.now _))))
    · refine ⟨(o.1, o.2, true), ?_, ?_⟩
      · unfold spec_LeftOpen.f; exact Ev.bind hs (Ev.congr (fun k => if_pos rfl) (Ev.bind h2 (Ev.congr (fun k => if_neg c) (Ev.now _))))
      · unfold impl_LeftOpen.f; exact Ev.bind hi (Ev.congr (fun k => if_pos rfl) (Ev.bind h1 (Ev.congr (fun k => if_neg c) (Ev.now _))))
  | false =>
    rw [hc] at hs hi
    refine ⟨(0, 0, false), ?_, ?_⟩
    · unfold spec_LeftOpen.f; exact Ev.bind hs (Ev.congr (fun k => if_ff _ _) (Ev.now _))
    · unfold impl_LeftOpen.f; exact Ev.bind hi (Ev.congr (fun k => if_ff _ _) (Ev.now _))

theorem eqIntS_l0 (l : List Int) (hl : l.length < 1000000000000) (d : Nat) : ∀ (i : Int), 0 ≤ i → i ≤ l.length → (l.length : Int) - i = d → Ev (fun k => laws_eqIntS.l0 k l l i) true := by
  induction d with
  | zero =>
    intro i h0 h1 hd
    exact Ev.step (f := fun _ => some true) (fun k => by simp only [laws_eqIntS.l0]; rw [if_neg (by omega)]) (Ev.now _)
  | succ d ih =>
    intro i h0 h1 hd
    have hlt : i < (l.length : Int) := by omega
    have hw : wrap64 (i + 1) = i + 1 := wrap64_small (by omega) (by omega)
    exact Ev.step (f := fun k => laws_eqIntS.l0 k l l (i + 1)) (fun k => by simp only [laws_eqIntS.l0]; rw [if_pos hlt, if_pos h0, if_pos hlt, if_pos trivial, hw]) (ih (i + 1) (by omega) (by omega) (by omega))

theorem eqIntS_self (l : List Int) (hl : l.length < 1000000000000) : Ev (fun k => laws_eqIntS.f k l l) true :=
  Ev.congr (f := fun k => laws_eqIntS.l0 k l l 0) (fun k => by unfold laws_eqIntS.f; rw [if_pos rfl]) (eqIntS_l0 l hl l.length 0 (by omega) (by omega) (by omega))

theorem markIntS_l0 (n : Nat) (hn : n < 1000000000000) (a : Int) (ha0 : 0 ≤ a) (ha1 : a < 1000000000000) (d : Nat) : ∀ (x : List Int) (i : Int), x.length = n → 0 ≤ i → i ≤ n → (n : Int) - i = d → (∀ j : Int, 0 ≤ j → j < i → rd x j = a + j) →
    ∃ r, Ev (fun k => laws_markIntS.l0 k x (a + i) i) (a + n, r) ∧ r.length = n ∧ ∀ j : Int, 0 ≤ j → j < n → rd r j = a + j := by
  induction d with
  | zero =>
    intro x i hx h0 h1 hd hj
    have hi : i = n := by omega
    subst hi
    exact ⟨x, Ev.step (f := fun _ => some (a + n, x)) (fun k => by simp only [laws_markIntS.l0]; rw [if_neg (by omega)]) (Ev.now _), hx, hj⟩
  | succ d ih =>
    intro x i hx h0 h1 hd hj
    have hlt : i < (x.length : Int) := by omega
    have hw : wrap64 (i + 1) = i + 1 := wrap64_small (by omega) (by omega)
    have hw2 : wrap64 (a + i + 1) = a + (i + 1) := by rw [wrap64_small (by omega) (by omega)]; omega
    obtain ⟨r, hr, hl, hv⟩ := ih (x.set i.toNat (a + i)) (i + 1) (by simp [hx]) (by omega) (by omega) (by omega) (fun j h0j hji => by
      rw [rd_set _ _ _ _ h0j (by omega)]
      by_cases e : j = (i.toNat : Int)
      · rw [if_pos e]; omega
      · rw [if_neg e]; exact hj j h0j (by omega))
    exact ⟨r, Ev.step (f := fun k => laws_markIntS.l0 k (x.set i.toNat (a + i)) (a + (i + 1)) (i + 1)) (fun k => by simp only [laws_markIntS.l0]; rw [if_pos hlt, if_pos h0, hw, hw2]) hr, hl, hv⟩

theorem heldIntS_l0 (r : List Int) (hn : r.length < 1000000000000) (a : Int) (ha0 : 0 ≤ a) (ha1 : a < 1000000000000) (hv : ∀ j : Int, 0 ≤ j → j < r.length → rd r j = a + j) (d : Nat) : ∀ (i : Int), 0 ≤ i → i ≤ r.length → (r.length : Int) - i = d →
    Ev (fun k => laws_heldIntS.l0 k r (a + i) i) (a + r.length) := by
  induction d with
  | zero =>
    intro i h0 h1 hd
    have hi : i = r.length := by omega
    subst hi
    exact Ev.step (f := fun _ => some (a + r.length)) (fun k => by simp only [laws_heldIntS.l0]; rw [if_neg (by omega)]) (Ev.now _)
  | succ d ih =>
    intro i h0 h1 hd
    have hlt : i < (r.length : Int) := by omega
    have hw : wrap64 (i + 1) = i + 1 := wrap64_small (by omega) (by omega)
    have hw2 : wrap64 (a + i + 1) = a + (i + 1) := by rw [wrap64_small (by omega) (by omega)]; omega
    exact Ev.step (f := fun k => laws_heldIntS.l0 k r (a + (i + 1)) (i + 1)) (fun k => by simp only [laws_heldIntS.l0]; rw [if_pos hlt, if_pos h0, if_pos (hv i h0 hlt), hw, hw2]) (ih (i + 1) (by omega) (by omega) (by omega))

theorem mark_held (l : List Int) (hl : l.length < 1000000000) : ∃ r, Ev (fun k => laws_markIntS.f k l 101) (101 + (l.length : Int), r) ∧ Ev (fun k => laws_heldIntS.f k r 101) (101 + (l.length : Int)) ∧ r.length = l.length := by
  obtain ⟨r, h1, h2, h3⟩ := markIntS_l0 l.length (by omega) 101 (by omega) (by omega) l.length l 0 rfl (by omega) (by omega) (by omega) (fun j _ _ => by omega)
  refine ⟨r, h1, ?_, h2⟩
  have := heldIntS_l0 r (by omega) 101 (by omega) (by omega) (fun j h0 h1 => h3 j h0 (by omega)) r.length 0 (by omega) (by omega) (by omega)
  rw [h2] at this
  exact this

theorem markDrops_l0 (n : Nat) (hn : n < 1000000000000) (d : Nat) : ∀ (x : List S66) (i : Nat) (a : Int), x.length = n → i + d = n → 0 ≤ a → a + 2 * d < 9000000000000 → ∃ r : Int × List S66, Ev (fun k => laws_markDropS.l0 k x a (i : Int)) r ∧ 0 ≤ r.1 := by
  induction d with
  | zero =>
    intro x i a hx hi ha hb
    exact ⟨(a, x), Ev.step (f := fun _ => some (a, x)) (fun k => by simp only [laws_markDropS.l0]; rw [if_neg (by omega)]) (Ev.now _), ha⟩
  | succ d ih =>
    intro x i a hx hi ha hb
    have HW := Aside0.mk (show wrap64 ((i : Int) + 1) = ((i + 1 : Nat) : Int) ∧ wrap64 (a + 1) = a + 1 ∧ wrap64 (a + 1 + 1) = a + 2 from ⟨wrap64_small (by omega) (by omega), wrap64_small (by omega) (by omega), (wrap64_small (by omega) (by omega)).trans (by omega)⟩)
    obtain ⟨y, hy⟩ : ∃ y, y = x.set (i : Int).toNat (⟨a, (rd_T66 x (i : Int)).f1⟩ : S66) := ⟨_, rfl⟩
    have hyl : y.length = n := by rw [hy, List.length_set, hx]
    obtain ⟨r, h1, h2⟩ := ih (y.set (i : Int).toNat (⟨(rd_T66 y (i : Int)).f0, ((Int.tmod (a + 1) 3) == 0)⟩ : S66)) (i + 1) (a + 2) (by rw [List.length_set, hyl]) (by omega) (by omega) (by omega)
    refine ⟨r, Ev.step (fun k => ?_) h1, h2⟩
    simp only [laws_markDropS.l0]
    rw [if_pos (by omega), if_pos (by omega), ← hy, Option.bind_some, HW.out.1, HW.out.2.1, HW.out.2.2]
theorem markDrops_ev (x : List S66) (hx : x.length < 1000000000) : ∃ r : Int × List S66, Ev (fun k => laws_markDropS.f k x 101) r ∧ 0 ≤ r.1 := by
  obtain ⟨r, h1, h2⟩ := markDrops_l0 x.length (by omega) x.length x 0 101 rfl (by omega) (by omega) (by omega)
  exact ⟨r, h1, h2⟩

theorem idle_both (a : Int) (l : List S66) (hl : l.length < 1000000) (d : Nat) : ∀ (i : Nat) (x : List Int), i + d = l.length → x.length ≤ i →
    ∃ r : List Int × Bool, r.1.length ≤ l.length ∧ Ev (fun k => impl_IdleDrops.l0 k a l x (l.length : Int) (i : Int)) r ∧ Ev (fun k => spec_IdleDrops.l0 k a l x (l.length : Int) (i : Int)) r := by
  induction d with
  | zero =>
    intro i x h hx
    exact ⟨(x, true), by show x.length ≤ l.length; omega, Ev.step (f := fun _ => some (x, true)) (fun k => by simp only [impl_IdleDrops.l0]; rw [if_neg (by omega)]) (Ev.now _), Ev.step (f := fun _ => some (x, true)) (fun k => by simp only [spec_IdleDrops.l0]; rw [if_neg (by omega)]) (Ev.now _)⟩
  | succ d ih =>
    intro i x h hx
    have HW := Aside0.mk (show wrap64 ((i : Int) + 1) = ((i + 1 : Nat) : Int) from wrap64_small (by omega) (by omega))
    obtain ⟨o, o1, o2⟩ := open_both a (l.take (i : Int).toNat) (by rw [List.length_take]; omega)
    obtain ⟨p, p1, p2⟩ := open_both a (l.take (((i + 1 : Nat) : Int)).toNat) (by rw [List.length_take]; omega)
    have simpl : ∀ k, impl_IdleDrops.l0 (k + 1) a l x (l.length : Int) (i : Int) = (impl_open.f k a (l.take (i : Int).toNat)).bind fun t => ((impl_open.f k a (l.take (((i + 1 : Nat) : Int)).toNat)).bind fun u => (if u.1 = t.1 then (if u.2 = t.2 then (if x.length < 17592186044416 then (impl_IdleDrops.l0 k a l (x ++ [(i : Int)]) (l.length : Int) ((i + 1 : Nat) : Int)) else (none)) else (impl_IdleDrops.l0 k a l x (l.length : Int) ((i + 1 : Nat) : Int))) else (impl_IdleDrops.l0 k a l x (l.length : Int) ((i + 1 : Nat) : Int)))) := by
      intro k
      simp only [impl_IdleDrops.l0]
      rw [if_pos (by omega), if_pos (by omega), if_pos (by omega)]
      simp only [HW.out]
      congr 1; funext t
      rw [if_pos (by omega), if_pos (by omega)]
    have sspec : ∀ k, spec_IdleDrops.l0 (k + 1) a l x (l.length : Int) (i : Int) = (spec_flOpen.f k a (l.take (i : Int).toNat)).bind fun t => ((spec_flOpen.f k a (l.take (((i + 1 : Nat) : Int)).toNat)).bind fun u => (if t.1 = u.1 then (if t.2 = u.2 then (if x.length < 17592186044416 then (spec_IdleDrops.l0 k a l (x ++ [(i : Int)]) (l.length : Int) ((i + 1 : Nat) : Int)) else (none)) else (spec_IdleDrops.l0 k a l x (l.length : Int) ((i + 1 : Nat) : Int))) else (spec_IdleDrops.l0 k a l x (l.length : Int) ((i + 1 : Nat) : Int)))) := by
      intro k
      simp only [spec_IdleDrops.l0]
      rw [if_pos (by omega), if_pos (by omega), if_pos (by omega)]
      simp only [HW.out]
      congr 1; funext t
      rw [if_pos (by omega), if_pos (by omega)]
    by_cases c1 : p.1 = o.1
    · by_cases c2 : p.2 = o.2
      · obtain ⟨r, hr, r1, r2⟩ := ih (i + 1) (x ++ [(i : Int)]) (by omega) (by rw [List.length_append, List.length_singleton]; omega)
        exact ⟨r, hr, Ev.step simpl (Ev.bind o1 (Ev.bind p1 (Ev.congr (fun k => if_pos c1) (Ev.congr (fun k => if_pos c2) (Ev.congr (fun k => if_pos (by omega)) r1))))), Ev.step sspec (Ev.bind o2 (Ev.bind p2 (Ev.congr (fun k => if_pos c1.symm) (Ev.congr (fun k => if_pos c2.symm) (Ev.congr (fun k => if_pos (by omega)) r2)))))⟩
      · obtain ⟨r, hr, r1, r2⟩ := ih (i + 1) x (by omega) (by omega)
        exact ⟨r, hr, Ev.step simpl (Ev.bind o1 (Ev.bind p1 (Ev.congr (fun k => if_pos c1) (Ev.congr (fun k => if_neg c2) r1)))), Ev.step sspec (Ev.bind o2 (Ev.bind p2 (Ev.congr (fun k => if_pos c1.symm) (Ev.congr (fun k => if_neg (fun e => c2 e.symm)) r2))))⟩
    · obtain ⟨r, hr, r1, r2⟩ := ih (i + 1) x (by omega) (by omega)
      exact ⟨r, hr, Ev.step simpl (Ev.bind o1 (Ev.bind p1 (Ev.congr (fun k => if_neg c1) r1))), Ev.step sspec (Ev.bind o2 (Ev.bind p2 (Ev.congr (fun k => if_neg (fun e => c1 e.symm)) r2)))⟩
theorem idle_law (a : Int) (l : List S66) (hl : l.length < 1000000000000) : ∃ r : List Int × Bool, r.1.length < 1000000 ∧ Ev (fun k => spec_IdleDrops.f k a l) r ∧ Ev (fun k => impl_IdleDrops.f k a l) r := by
  obtain ⟨o, o1, o2⟩ := law_both a l hl
  cases hc : Hand.aDrop a (l.map tup) with
  | true =>
    have hlen : l.length ≤ 1000 := by
      unfold Hand.aDrop at hc
      rw [Bool.and_eq_true, Bool.and_eq_true, List.length_map] at hc
      exact of_decide_eq_true hc.1.2
    by_cases c : o.2.2 = true
    · obtain ⟨r, hr, r1, r2⟩ := idle_both a l (by omega) l.length 0 [] (by omega) (by simp)
      refine ⟨r, by omega, ?_, ?_⟩
      · unfold spec_IdleDrops.f; exact Ev.bind o1 (Ev.congr (fun k => if_pos c) r2)
      · unfold impl_IdleDrops.f; exact Ev.bind o2 (Ev.congr (fun k => if_pos c) r1)
    · refine ⟨([], false), by simp, ?_, ?_⟩
      · unfold spec_IdleDrops.f; exact Ev.bind o1 (Ev.congr (fun k => if_neg c) (Ev.now _))
      · unfold impl_IdleDrops.f; exact Ev.bind o2 (Ev.congr (fun k => if_neg c) (Ev.now _))
  | false =>
    have c : ¬ (o.2.2 = true) := by
      have h1 := flDrops_ev a l hl
      rw [hc] at h1
      have h2 : Ev (fun k => spec_LeftOpen.f k a l) (0, 0, false) := by unfold spec_LeftOpen.f; exact Ev.bind h1 (Ev.congr (fun k => if_ff _ _) (Ev.now _))
      obtain ⟨K1, hK1⟩ := h2
      obtain ⟨K2, hK2⟩ := o1
      have e := (hK1 (max K1 K2) (by omega)).symm.trans (hK2 (max K1 K2) (by omega))
      rw [← Option.some.inj e]
      decide
    refine ⟨([], false), by simp, ?_, ?_⟩
    · unfold spec_IdleDrops.f; exact Ev.bind o1 (Ev.congr (fun k => if_neg c) (Ev.now _))
    · unfold impl_IdleDrops.f; exact Ev.bind o2 (Ev.congr (fun k => if_neg c) (Ev.now _))
theorem FnExactIdleDrops : laws_FnExactIdleDrops.Pure := by
  intro a0 l1 hm
  apply Ev.rounds
  unfold laws_FnExactIdleDrops.f
  by_cases h : l1.length ≤ 1000000
  · have ht := laws_toDropS.ev l1 h
    have hlen : (l1.map cvDrop).length = l1.length := List.length_map ..
    obtain ⟨r, hrl, hs, hi⟩ := idle_law a0 (l1.map cvDrop) (by omega)
    have hx : Ev (fun k => laws_intactDropS.f k (l1.map cvDrop) (l1.map cvDrop)) true := laws_eqDropS_same _ (by omega)
    obtain ⟨md, hmd, hmd0⟩ := markDrops_ev (l1.map cvDrop) (by omega)
    obtain ⟨mr, hmk, hh, _⟩ := mark_held r.1 (by omega)
    have heq := eqIntS_self r.1 (by omega)
    refine Ev.congr (f := _) (fun k => by rw [szDrop_ev l1 h, Option.bind_some, if_neg (by omega)]) ?_
    refine Ev.bind (ht false) ?_
    refine Ev.bind hs ?_
    refine Ev.bind (ht false) ?_
    refine Ev.bind hi ?_
    refine Ev.bind heq ?_
    refine Ev.congr (fun k => if_pos rfl) ?_
    refine Ev.congr (fun k => if_neg (by simp)) ?_
    refine Ev.bind (ht false) ?_
    refine Ev.bind hx ?_
    refine Ev.congr (fun k => if_pos rfl) ?_
    refine Ev.bind hmd ?_
    refine Ev.congr (fun k => if_neg (by omega)) ?_
    refine Ev.bind heq ?_
    refine Ev.congr (fun k => if_pos rfl) ?_
    refine Ev.bind hmk ?_
    refine Ev.bind hh ?_
    refine Ev.congr (fun k => if_neg (by omega)) ?_
    refine Ev.congr (fun k => if_pos rfl) ?_
    refine Ev.bind (ht true) ?_
    refine Ev.bind hi ?_
    refine Ev.bind heq ?_
    refine Ev.congr (fun k => if_pos rfl) ?_
    refine Ev.congr (fun k => if_neg (by simp)) ?_
    refine Ev.bind hh ?_
    refine Ev.congr (fun k => if_neg (by omega)) ?_
    refine Ev.congr (fun k => if_pos rfl) ?_
    exact Ev.now _
  · exact Ev.congr (f := fun _ => some true) (fun k => by rw [szDrop_big l1 h hm, Option.bind_some, if_pos (by omega)]) (Ev.now _)

end Go.Proofs.Ytlngkkdoikekbaa.Pure
