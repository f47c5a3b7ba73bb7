/- The program's IsSettled answers as the reference's does, and leaves the row that it is given alone, for every number and list; no conditions. -/
import Derived.Test.YtlngkkdoikekbaaQFnExactIsSettledx3
namespace Go.Proofs.Ytlngkkdoikekbaa.Pure
open Go.RowKit Go.Proofs.Ytlngkkdoikekbaa.QFnExactIsSettled Go.Proofs.YtlngkkdoikekbaaW.PrintWords Go.Proofs.YtlngkkdoikekbaaW.PrintLast Go.Proofs.YtlngkkdoikekbaaW.PrintMore
set_option linter.unusedVariables false

theorem wrap64_small {x : Int} (h0 : -9223372036854775808 ≤ x) (h1 : x < 9223372036854775808) : wrap64 x = x := by
  unfold wrap64; omega
theorem l1In_some (a b c : Int) : spec_l1In.f a b c = some (decide (b ≤ a ∧ a ≤ c)) := by
  unfold spec_l1In.f
  by_cases h : a ≥ b
  · rw [if_pos h]; congr 1; rw [Bool.eq_iff_iff]; simp; omega
  · rw [if_neg h]; congr 1; symm; rw [decide_eq_false_iff_not]; omega
theorem l1In_yes {a b c : Int} (h : b ≤ a ∧ a ≤ c) : spec_l1In.f a b c = some true := by rw [l1In_some, decide_eq_true h]
theorem l1In_no {a b c : Int} (h : ¬ (b ≤ a ∧ a ≤ c)) : spec_l1In.f a b c = some false := by rw [l1In_some, decide_eq_false h]
theorem if_ff {α : Type} (x y : α) : (if false = true then x else y) = y := if_neg (by decide)

theorem inn_dec (a b c : Int) : Hand.inn a b c = decide (b ≤ a ∧ a ≤ c) := by unfold Hand.inn; rw [Bool.decide_and]
theorem inn_some (a b c : Int) : spec_l1In.f a b c = some (Hand.inn a b c) := by rw [l1In_some, inn_dec]
theorem rd_nat (l : List Int) (i : Nat) (h : i < l.length) : rd l (i : Int) = l[i] := by unfold rd; simp [h]

theorem rd66_nat (l : List S66) (i : Nat) (h : i < l.length) : rd_T66 l (i : Int) = l[i] := by unfold rd_T66; simp [h]
theorem flDrops_go (l : List S66) (b : Int) (hl : l.length < 1000000000000) (d : Nat) : ∀ (i : Nat), i + d = l.length → Ev (fun k => spec_flDrops.l0 k b l (l.length : Int) (i : Int)) (!((l.drop i).any fun x => !(Hand.inn x.f0 1 b))) := by
  induction d with
  | zero =>
    intro i hi
    refine Ev.step (f := fun _ => some true) (fun k => ?_) ?_
    · simp only [spec_flDrops.l0]; rw [if_neg (by omega)]
    · rw [List.drop_eq_nil_of_le (by omega)]; exact Ev.now _
  | succ d ih =>
    intro i hi
    have hlt : i < l.length := by omega
    have hw : wrap64 ((i : Int) + 1) = ((i + 1 : Nat) : Int) := wrap64_small (by omega) (by omega)
    rw [List.drop_eq_getElem_cons hlt, List.any_cons]
    cases hc : Hand.inn l[i].f0 1 b with
    | true =>
      refine Ev.step (f := fun k => spec_flDrops.l0 k b l (l.length : Int) ((i + 1 : Nat) : Int)) (fun k => ?_) (by rw [Bool.not_true, Bool.false_or]; exact ih (i + 1) (by omega))
      simp only [spec_flDrops.l0]
      rw [if_pos (by omega), if_pos (by omega), if_pos (by omega), rd66_nat l i hlt, inn_some, hc, Option.bind_some, if_pos rfl, hw]
    | false =>
      refine Ev.step (f := fun _ => some false) (fun k => ?_) (by rw [Bool.not_false, Bool.true_or]; exact Ev.now _)
      simp only [spec_flDrops.l0]
      rw [if_pos (by omega), if_pos (by omega), if_pos (by omega), rd66_nat l i hlt, inn_some, hc, Option.bind_some, if_ff]
def tup (x : S66) : Int × Bool := (x.f0, x.f1)
theorem flFloors_some (a : Int) : spec_flFloors.f a = some (Hand.inn a 0 1000) := by unfold spec_flFloors.f; rw [inn_some, Option.bind_some]
theorem flDrops_ev (b : Int) (l : List S66) (hl : l.length < 1000000000000) : Ev (fun k => spec_flDrops.f k b l) (Hand.aDrop b (l.map tup)) := by
  unfold Hand.aDrop
  rw [List.length_map, List.any_map]
  cases hc : Hand.inn b 0 1000 with
  | true =>
    by_cases h : l.length ≤ 1000
    · rw [decide_eq_true h, Bool.and_true, Bool.true_and]
      refine Ev.congr (f := fun k => spec_flDrops.j0 k b l false) (fun k => ?_) (Ev.step (f := fun k => spec_flDrops.l0 k b l (l.length : Int) ((0 : Nat) : Int)) (fun k => ?_) (flDrops_go l b hl l.length 0 (by omega)))
      · unfold spec_flDrops.f
        rw [flFloors_some, hc, Option.bind_some, if_pos rfl, show decide ((l.length : Int) > 1000) = false from decide_eq_false (by omega)]
      · simp only [spec_flDrops.j0]; rw [if_ff]; rfl
    · rw [decide_eq_false h, Bool.and_false, Bool.false_and]
      refine Ev.congr (f := fun k => spec_flDrops.j0 k b l true) (fun k => ?_) (Ev.step (f := fun _ => some false) (fun k => ?_) (Ev.now _))
      · unfold spec_flDrops.f
        rw [flFloors_some, hc, Option.bind_some, if_pos rfl, show decide ((l.length : Int) > 1000) = true from decide_eq_true (by omega)]
      · simp only [spec_flDrops.j0]; exact if_pos trivial
  | false =>
    rw [Bool.false_and, Bool.false_and]
    refine Ev.congr (f := fun k => spec_flDrops.j0 k b l true) (fun k => ?_) (Ev.step (f := fun _ => some false) (fun k => ?_) (Ev.now _))
    · unfold spec_flDrops.f
      rw [flFloors_some, hc, Option.bind_some, if_ff]
    · simp only [spec_flDrops.j0]; exact if_pos trivial
theorem areDrops_ev (b : Int) (l : List S66) (hl : l.length < 1000000000000) : Ev (fun k => impl_AreDrops.f k b l) (Hand.aDrop b (l.map tup)) := Ev.now _
theorem szDrop_ev (l : List S68) (h : l.length ≤ 1000000) : laws_szDropS.f l 1000000 = some (1000000 - (l.length : Int)) := by
  unfold laws_szDropS.f
  have e : wrap64 (1000000 - (l.length : Int)) = 1000000 - (l.length : Int) := wrap64_small (by omega) (by omega)
  rw [e, if_neg (by omega)]
theorem szDrop_big (l : List S68) (h : ¬ l.length ≤ 1000000) (hm : l.length ≤ 9223372036854775807) : laws_szDropS.f l 1000000 = some (-1) := by
  unfold laws_szDropS.f
  have e : wrap64 (1000000 - (l.length : Int)) = 1000000 - (l.length : Int) := wrap64_small (by omega) (by omega)
  rw [e, if_pos (by omega)]

theorem l1Least_mn (a b : Int) : spec_l1Least.f a b = some (mn a b) := by
  unfold spec_l1Least.f mn
  by_cases h : a < b
  · rw [if_pos h, if_neg (by omega)]
  · rw [if_neg h]
    by_cases h2 : b < a
    · rw [if_pos h2]
    · rw [if_neg h2]; congr 1; omega
theorem l1Most_mx (a b : Int) : spec_l1Most.f a b = some (mx a b) := by
  unfold spec_l1Most.f mx
  by_cases h : a > b
  · rw [if_pos h, if_neg (by omega)]
  · rw [if_neg h]
    by_cases h2 : a < b
    · rw [if_pos h2]
    · rw [if_neg h2]; congr 1; omega
theorem flOpen_same : ∀ (k : Nat) (lo hi : Int) (l : List S66) (n i : Int), spec_flOpen.l0 k lo hi l n i = impl_open.l0 k lo hi l n i
  | 0, _, _, _, _, _ => rfl
  | k + 1, lo, hi, l, n, i => by
    simp only [spec_flOpen.l0, impl_open.l0, l1Least_mn, l1Most_mx, Option.bind_some, flOpen_same k]
theorem open_ends (l : List S66) (hl : l.length < 1000000000000) (d : Nat) : ∀ (i : Nat) (lo hi : Int), i + d = l.length → ∃ r, Ev (fun k => impl_open.l0 k lo hi l (l.length : Int) (i : Int)) r := by
  induction d with
  | zero =>
    intro i lo hi h
    exact ⟨(lo, hi), Ev.step (f := fun _ => some (lo, hi)) (fun k => by simp only [impl_open.l0]; rw [if_neg (by omega)]) (Ev.now _)⟩
  | succ d ih =>
    intro i lo hi h
    have hw : wrap64 ((i : Int) + 1) = ((i + 1 : Nat) : Int) := wrap64_small (by omega) (by omega)
    by_cases c : (rd_T66 l (i : Int)).f1 = true
    · obtain ⟨r, hr⟩ := ih (i + 1) lo (mn hi (wrap64 ((rd_T66 l (i : Int)).f0 - 1))) (by omega)
      exact ⟨r, Ev.step (fun k => by simp only [impl_open.l0]; rw [if_pos (by omega), if_pos (by omega), if_pos (by omega), if_pos c, hw]) hr⟩
    · obtain ⟨r, hr⟩ := ih (i + 1) (mx lo ((rd_T66 l (i : Int)).f0)) hi (by omega)
      exact ⟨r, Ev.step (fun k => by simp only [impl_open.l0]; rw [if_pos (by omega), if_pos (by omega), if_pos (by omega), if_neg c, hw]) hr⟩
theorem open_both (a : Int) (l : List S66) (hl : l.length < 1000000000000) : ∃ r, Ev (fun k => impl_open.f k a l) r ∧ Ev (fun k => spec_flOpen.f k a l) r := by
  obtain ⟨r, hr⟩ := open_ends l hl l.length 0 0 a (by omega)
  exact ⟨r, hr, Ev.congr (fun k => by unfold spec_flOpen.f; rw [flOpen_same]; rfl) hr⟩

theorem law_both (a : Int) (l : List S66) (hl : l.length < 1000000000000) : ∃ r, Ev (fun k => spec_IsSettled.f k a l) r ∧ Ev (fun k => impl_IsSettled.f k a l) r := by
  have hs := flDrops_ev a l hl
  have hi := areDrops_ev a l hl
  cases hc : Hand.aDrop a (l.map tup) with
  | true =>
    rw [hc] at hs hi
    obtain ⟨o, h1, h2⟩ := open_both a l hl
    refine ⟨((o.1 == o.2), true), ?_, ?_⟩
    · unfold spec_IsSettled.f; exact Ev.bind hs (Ev.congr (fun k => if_pos rfl) (Ev.bind h2 (Ev.now _)))
    · unfold impl_IsSettled.f; exact Ev.bind hi (Ev.congr (fun k => if_pos rfl) (Ev.bind h1 (Ev.now _)))
  | false =>
    rw [hc] at hs hi
    refine ⟨(false, false), ?_, ?_⟩
    · unfold spec_IsSettled.f; exact Ev.bind hs (Ev.congr (fun k => if_ff _ _) (Ev.now _))
    · unfold impl_IsSettled.f; exact Ev.bind hi (Ev.congr (fun k => if_ff _ _) (Ev.now _))

theorem FnExactIsSettled : laws_FnExactIsSettled.Pure := by
  intro a0 l1 hm
  apply Ev.rounds
  unfold laws_FnExactIsSettled.f
  by_cases h : l1.length ≤ 1000000
  · have ht := laws_toDropS.ev l1 h
    obtain ⟨r, hs, hi⟩ := law_both a0 (l1.map cvDrop) (by rw [List.length_map]; omega)
    have hx : Ev (fun k => laws_intactDropS.f k (l1.map cvDrop) (l1.map cvDrop)) true := laws_eqDropS_same _ (by rw [List.length_map]; omega)
    refine Ev.congr (f := _) (fun k => by rw [szDrop_ev l1 h, Option.bind_some, if_neg (by omega)]) ?_
    refine Ev.bind (ht false) ?_
    refine Ev.bind hs ?_
    refine Ev.bind (ht false) ?_
    refine Ev.bind hi ?_
    refine Ev.congr (fun k => if_neg (by simp)) ?_
    refine Ev.congr (fun k => if_neg (by simp)) ?_
    refine Ev.bind (ht false) ?_
    refine Ev.bind hx ?_
    refine Ev.congr (fun k => if_pos rfl) ?_
    refine Ev.bind (ht true) ?_
    refine Ev.bind hi ?_
    refine Ev.congr (fun k => if_neg (by simp)) ?_
    refine Ev.congr (fun k => if_neg (by simp)) ?_
    exact Ev.now _
  · exact Ev.congr (f := fun _ => some true) (fun k => by rw [szDrop_big l1 h hm, Option.bind_some, if_pos (by omega)]) (Ev.now _)

end Go.Proofs.Ytlngkkdoikekbaa.Pure
