/- The program's CostOf answers as the reference's does, and leaves the row that it is given alone, for every prices and list; no conditions. -/
import Derived.Test.YtlngkkdoikekbaaQFnExactCostOfx4
namespace Go.Proofs.Ytlngkkdoikekbaa.Pure
open Go.RowKit Go.Proofs.Ytlngkkdoikekbaa.QFnExactCostOf Go.Proofs.YtlngkkdoikekbaaW.PrintWords Go.Proofs.YtlngkkdoikekbaaW.PrintLast Go.Proofs.YtlngkkdoikekbaaW.PrintMore
set_option linter.unusedVariables false

theorem wrap64_small {x : Int} (h0 : -9223372036854775808 ≤ x) (h1 : x < 9223372036854775808) : wrap64 x = x := by
  unfold wrap64; omega
theorem l1In_some (a b c : Int) : spec_l1In.f a b c = some (decide (b ≤ a ∧ a ≤ c)) := by
  unfold spec_l1In.f
  by_cases h : a ≥ b
  · rw [if_pos h]; congr 1; rw [Bool.eq_iff_iff]; simp; omega
  · rw [if_neg h]; congr 1; symm; rw [decide_eq_false_iff_not]; omega
theorem l1In_yes {a b c : Int} (h : b ≤ a ∧ a ≤ c) : spec_l1In.f a b c = some true := by rw [l1In_some, decide_eq_true h]
theorem l1In_no {a b c : Int} (h : ¬ (b ≤ a ∧ a ≤ c)) : spec_l1In.f a b c = some false := by rw [l1In_some, decide_eq_false h]
theorem if_ff {α : Type} (x y : α) : (if false = true then x else y) = y := if_neg (by decide)

theorem inn_dec (a b c : Int) : Hand.inn a b c = decide (b ≤ a ∧ a ≤ c) := by unfold Hand.inn; rw [Bool.decide_and]
theorem inn_some (a b c : Int) : spec_l1In.f a b c = some (Hand.inn a b c) := by rw [l1In_some, inn_dec]
theorem rd_nat (l : List Int) (i : Nat) (h : i < l.length) : rd l (i : Int) = l[i] := by unfold rd; simp [h]

theorem rd66_nat (l : List S66) (i : Nat) (h : i < l.length) : rd_T66 l (i : Int) = l[i] := by unfold rd_T66; simp [h]
theorem flDrops_go (l : List S66) (b : Int) (hl : l.length < 1000000000000) (d : Nat) : ∀ (i : Nat), i + d = l.length → Ev (fun k => spec_flDrops.l0 k b l (l.length : Int) (i : Int)) (!((l.drop i).any fun x => !(Hand.inn x.f0 1 b))) := by
  induction d with
  | zero =>
    intro i hi
    refine Ev.step (f := fun _ => some true) (fun k => ?_) ?_
    · simp only [spec_flDrops.l0]; rw [if_neg (by omega)]
    · rw [List.drop_eq_nil_of_le (by omega)]; exact Ev.now _
  | succ d ih =>
    intro i hi
    have hlt : i < l.length := by omega
    have hw : wrap64 ((i : Int) + 1) = ((i + 1 : Nat) : Int) := wrap64_small (by omega) (by omega)
    rw [List.drop_eq_getElem_cons hlt, List.any_cons]
    cases hc : Hand.inn l[i].f0 1 b with
    | true =>
      refine Ev.step (f := fun k => spec_flDrops.l0 k b l (l.length : Int) ((i + 1 : Nat) : Int)) (fun k => ?_) (by rw [Bool.not_true, Bool.false_or]; exact ih (i + 1) (by omega))
      simp only [spec_flDrops.l0]
      rw [if_pos (by omega), if_pos (by omega), if_pos (by omega), rd66_nat l i hlt, inn_some, hc, Option.bind_some, if_pos rfl, hw]
    | false =>
      refine Ev.step (f := fun _ => some false) (fun k => ?_) (by rw [Bool.not_false, Bool.true_or]; exact Ev.now _)
      simp only [spec_flDrops.l0]
      rw [if_pos (by omega), if_pos (by omega), if_pos (by omega), rd66_nat l i hlt, inn_some, hc, Option.bind_some, if_ff]
def tup (x : S66) : Int × Bool := (x.f0, x.f1)
theorem flFloors_some (a : Int) : spec_flFloors.f a = some (Hand.inn a 0 1000) := by unfold spec_flFloors.f; rw [inn_some, Option.bind_some]
theorem flDrops_ev (b : Int) (l : List S66) (hl : l.length < 1000000000000) : Ev (fun k => spec_flDrops.f k b l) (Hand.aDrop b (l.map tup)) := by
  unfold Hand.aDrop
  rw [List.length_map, List.any_map]
  cases hc : Hand.inn b 0 1000 with
  | true =>
    by_cases h : l.length ≤ 1000
    · rw [decide_eq_true h, Bool.and_true, Bool.true_and]
      refine Ev.congr (f := fun k => spec_flDrops.j0 k b l false) (fun k => ?_) (Ev.step (f := fun k => spec_flDrops.l0 k b l (l.length : Int) ((0 : Nat) : Int)) (fun k => ?_) (flDrops_go l b hl l.length 0 (by omega)))
      · unfold spec_flDrops.f
        rw [flFloors_some, hc, Option.bind_some, if_pos rfl, show decide ((l.length : Int) > 1000) = false from decide_eq_false (by omega)]
      · simp only [spec_flDrops.j0]; rw [if_ff]; rfl
    · rw [decide_eq_false h, Bool.and_false, Bool.false_and]
      refine Ev.congr (f := fun k => spec_flDrops.j0 k b l true) (fun k => ?_) (Ev.step (f := fun _ => some false) (fun k => ?_) (Ev.now _))
      · unfold spec_flDrops.f
        rw [flFloors_some, hc, Option.bind_some, if_pos rfl, show decide ((l.length : Int) > 1000) = true from decide_eq_true (by omega)]
      · simp only [spec_flDrops.j0]; exact if_pos trivial
  | false =>
    rw [Bool.false_and, Bool.false_and]
    refine Ev.congr (f := fun k => spec_flDrops.j0 k b l true) (fun k => ?_) (Ev.step (f := fun _ => some false) (fun k => ?_) (Ev.now _))
    · unfold spec_flDrops.f
      rw [flFloors_some, hc, Option.bind_some, if_ff]
    · simp only [spec_flDrops.j0]; exact if_pos trivial
theorem areDrops_ev (b : Int) (l : List S66) (hl : l.length < 1000000000000) : Ev (fun k => impl_AreDrops.f k b l) (Hand.aDrop b (l.map tup)) := Ev.now _
theorem szDrop_ev (l : List S68) (h : l.length ≤ 1000000) : laws_szDropS.f l 1000000 = some (1000000 - (l.length : Int)) := by
  unfold laws_szDropS.f
  have e : wrap64 (1000000 - (l.length : Int)) = 1000000 - (l.length : Int) := wrap64_small (by omega) (by omega)
  rw [e, if_neg (by omega)]
theorem szDrop_big (l : List S68) (h : ¬ l.length ≤ 1000000) (hm : l.length ≤ 9223372036854775807) : laws_szDropS.f l 1000000 = some (-1) := by
  unfold laws_szDropS.f
  have e : wrap64 (1000000 - (l.length : Int)) = 1000000 - (l.length : Int) := wrap64_small (by omega) (by omega)
  rw [e, if_pos (by omega)]

theorem l1All_go (l : List Int) (a b : Int) (hl : l.length < 1000000000000) (d : Nat) : ∀ (i : Nat), i + d = l.length → Ev (fun k => spec_l1All.l0 k a b l (l.length : Int) (i : Int)) (!((l.drop i).any fun x => !(Hand.inn x a b))) := by
  induction d with
  | zero =>
    intro i hi
    refine Ev.step (f := fun _ => some true) (fun k => ?_) ?_
    · simp only [spec_l1All.l0]; rw [if_neg (by omega)]
    · rw [List.drop_eq_nil_of_le (by omega)]; exact Ev.now _
  | succ d ih =>
    intro i hi
    have hlt : i < l.length := by omega
    have hw : wrap64 ((i : Int) + 1) = ((i + 1 : Nat) : Int) := wrap64_small (by omega) (by omega)
    rw [List.drop_eq_getElem_cons hlt, List.any_cons]
    cases hc : Hand.inn l[i] a b with
    | true =>
      refine Ev.step (f := fun k => spec_l1All.l0 k a b l (l.length : Int) ((i + 1 : Nat) : Int)) (fun k => ?_) (by rw [Bool.not_true, Bool.false_or]; exact ih (i + 1) (by omega))
      simp only [spec_l1All.l0]
      rw [if_pos (by omega), if_pos (by omega), if_pos (by omega), rd_nat l i hlt, inn_some, hc, Option.bind_some, if_pos rfl, hw]
    | false =>
      refine Ev.step (f := fun _ => some false) (fun k => ?_) (by rw [Bool.not_false, Bool.true_or]; exact Ev.now _)
      simp only [spec_l1All.l0]
      rw [if_pos (by omega), if_pos (by omega), if_pos (by omega), rd_nat l i hlt, inn_some, hc, Option.bind_some, if_ff]

theorem l1Most_mx (a b : Int) : spec_l1Most.f a b = some (mx a b) := by
  unfold spec_l1Most.f mx
  by_cases h : a > b
  · rw [if_pos h, if_neg (by omega)]
  · rw [if_neg h]
    by_cases h2 : a < b
    · rw [if_pos h2]
    · rw [if_neg h2]; congr 1; omega

theorem l1Abs_mx (f x : Int) (h0 : 0 ≤ f) (h1 : f ≤ 1000) (h2 : 0 ≤ x) (h3 : x ≤ 1000) : spec_l1Abs.f (wrap64 (f - x)) = some (mx (wrap64 (f - x)) (wrap64 (x - f))) := by
  unfold spec_l1Abs.f
  rw [wrap64_small (by omega) (by omega), wrap64_small (x := -(f - x)) (by omega) (by omega), wrap64_small (x := x - f) (by omega) (by omega), l1Most_mx, Option.bind_some, show -(f - x) = x - f by omega]
theorem climbs_both (l : List S66) (hl : l.length < 1000000000000) (hf : ∀ (i : Nat) (h : i < l.length), 1 ≤ l[i].f0 ∧ l[i].f0 ≤ 1000) (d : Nat) : ∀ (i : Nat) (s x : Int), i + d = l.length → 0 ≤ x → x ≤ 1000 →
    ∃ r, Ev (fun k => impl_climbs.l0 k s x l (l.length : Int) (i : Int)) r ∧ Ev (fun k => spec_csClimbs.l0 k s x l (l.length : Int) (i : Int)) r := by
  induction d with
  | zero =>
    intro i s x h h0 h1
    exact ⟨s, Ev.step (f := fun _ => some s) (fun k => by simp only [impl_climbs.l0]; rw [if_neg (by omega)]) (Ev.now _), Ev.step (f := fun _ => some s) (fun k => by simp only [spec_csClimbs.l0]; rw [if_neg (by omega)]) (Ev.now _)⟩
  | succ d ih =>
    intro i s x h h0 h1
    have hlt : i < l.length := by omega
    have hb := hf i hlt
    have HW := Aside0.mk (show wrap64 ((i : Int) + 1) = ((i + 1 : Nat) : Int) from wrap64_small (by omega) (by omega))
    obtain ⟨r, r1, r2⟩ := ih (i + 1) (wrap64 (s + (mx (wrap64 (l[i].f0 - x)) (wrap64 (x - l[i].f0))))) l[i].f0 (by omega) (by omega) (by omega)
    refine ⟨r, Ev.step (fun k => ?_) r1, Ev.step (fun k => ?_) r2⟩
    · simp only [impl_climbs.l0]; rw [if_pos (by omega), if_pos (by omega), if_pos (by omega), rd66_nat l i hlt, HW.out]
    · simp only [spec_csClimbs.l0]; rw [if_pos (by omega), if_pos (by omega), if_pos (by omega), rd66_nat l i hlt, l1Abs_mx _ _ (by omega) (by omega) h0 h1, Option.bind_some, HW.out]
theorem aDrop_in {b : Int} {l : List S66} (h : Hand.aDrop b (l.map tup) = true) : ∀ (i : Nat) (hi : i < l.length), 1 ≤ l[i].f0 ∧ l[i].f0 ≤ b := by
  intro i hi
  unfold Hand.aDrop at h
  rw [List.any_map, Bool.and_eq_true] at h
  have h2 := h.2
  rw [Bool.not_eq_true', List.any_eq_false] at h2
  have h3 := h2 l[i] (List.getElem_mem hi)
  have h4 : Hand.inn l[i].f0 1 b = true := by simpa [tup] using h3
  rw [inn_dec] at h4
  exact of_decide_eq_true h4
theorem climbs_ev (l : List S66) (hl : l.length < 1000000000000) (h : Hand.aDrop 1000 (l.map tup) = true) : ∃ r, Ev (fun k => impl_climbs.f k l) r ∧ Ev (fun k => spec_csClimbs.f k l) r :=
  climbs_both l hl (aDrop_in h) l.length 0 0 0 (by omega) (by omega) (by omega)

theorem within_inn (a b c : Int) : impl_within.f a b c = some (Hand.inn a b c) := by rw [inn_dec]; unfold impl_within.f; by_cases h : a ≥ b
                                                                                     · rw [if_pos h]; congr 1; rw [Bool.eq_iff_iff]; simp; omega
                                                                                     · rw [if_neg h]; congr 1; symm; rw [decide_eq_false_iff_not]; omega
def okP (a b c : Int) : Bool := Hand.inn a 0 1000 && (Hand.inn b 0 1000 && Hand.inn c 0 1000)
theorem arePrices_some (a b c : Int) : impl_ArePrices.f a b c = some (okP a b c) := by
  unfold impl_ArePrices.f okP
  have e : ∀ x, impl_isPrice.f x = some (Hand.inn x 0 1000) := fun x => by unfold impl_isPrice.f; rw [within_inn, Option.bind_some]
  rw [e, e, e, Option.bind_some, Option.bind_some, Option.bind_some]
  cases Hand.inn a 0 1000 <;> cases Hand.inn b 0 1000 <;> simp
theorem csGood_ev (a b c : Int) : Ev (fun k => spec_csGood.f k a b c) (okP a b c) := by
  have h := l1All_go [a, b, c] 0 1000 (by simp) 3 0 rfl
  have e : (!(([a, b, c].drop 0).any fun x => !(Hand.inn x 0 1000))) = okP a b c := by
    unfold okP
    simp only [List.drop_zero, List.any_cons, List.any_nil]
    cases Hand.inn a 0 1000 <;> cases Hand.inn b 0 1000 <;> cases Hand.inn c 0 1000 <;> rfl
  rw [e] at h
  unfold spec_csGood.f
  exact Ev.bind (f := fun _ t => some t) (Ev.congr (fun k => rfl) h) (Ev.now _)
theorem broken_both (l : List S66) (hl : l.length < 1000000000000) (d : Nat) : ∀ (i : Nat) (s : Int), i + d = l.length →
    ∃ r, Ev (fun k => impl_countBroken.l0 k s l (l.length : Int) (i : Int)) r ∧ Ev (fun k => spec_flBroken.l0 k s l (l.length : Int) (i : Int)) r := by
  induction d with
  | zero =>
    intro i s h
    exact ⟨s, Ev.step (f := fun _ => some s) (fun k => by simp only [impl_countBroken.l0]; rw [if_neg (by omega)]) (Ev.now _), Ev.step (f := fun _ => some s) (fun k => by simp only [spec_flBroken.l0]; rw [if_neg (by omega)]) (Ev.now _)⟩
  | succ d ih =>
    intro i s h
    have HW := Aside0.mk (show wrap64 ((i : Int) + 1) = ((i + 1 : Nat) : Int) from wrap64_small (by omega) (by omega))
    by_cases c : (rd_T66 l (i : Int)).f1 = true
    · obtain ⟨r, r1, r2⟩ := ih (i + 1) (wrap64 (s + 1)) (by omega)
      exact ⟨r, Ev.step (fun k => by simp only [impl_countBroken.l0]; rw [if_pos (by omega), if_pos (by omega), if_pos (by omega), if_pos c, HW.out]) r1, Ev.step (fun k => by simp only [spec_flBroken.l0]; rw [if_pos (by omega), if_pos (by omega), if_pos (by omega), if_pos c, HW.out]) r2⟩
    · obtain ⟨r, r1, r2⟩ := ih (i + 1) s (by omega)
      exact ⟨r, Ev.step (fun k => by simp only [impl_countBroken.l0]; rw [if_pos (by omega), if_pos (by omega), if_pos (by omega), if_neg c, HW.out]) r1, Ev.step (fun k => by simp only [spec_flBroken.l0]; rw [if_pos (by omega), if_pos (by omega), if_pos (by omega), if_neg c, HW.out]) r2⟩
theorem cost_both (a b c : Int) (l : List S66) (hl : l.length < 1000000000000) (h : Hand.aDrop 1000 (l.map tup) = true) : ∃ r, Ev (fun k => impl_Prices_of.f k a b c l) r ∧ Ev (fun k => spec_csCost.f k a b c l) r := by
  obtain ⟨t, t1, t2⟩ := broken_both l hl l.length 0 0 (by omega)
  obtain ⟨u, u1, u2⟩ := climbs_ev l hl h
  refine ⟨wrap64 ((wrap64 ((wrap64 (a * t)) + (wrap64 (b * (l.length : Int))))) + (wrap64 (c * u))), ?_, ?_⟩
  · unfold impl_Prices_of.f
    exact Ev.bind (Ev.congr (fun k => rfl) t1) (Ev.bind u1 (Ev.now _))
  · unfold spec_csCost.f
    exact Ev.bind (Ev.congr (fun k => rfl) t2) (Ev.bind u2 (Ev.now _))
theorem law_both (a b c : Int) (l : List S66) (hl : l.length < 1000000000000) : ∃ r, Ev (fun k => spec_CostOf.f k a b c l) r ∧ Ev (fun k => impl_CostOf.f k a b c l) r := by
  have hs := flDrops_ev 1000 l hl
  have hi := areDrops_ev 1000 l hl
  have hg := csGood_ev a b c
  have hp : Ev (fun _ => impl_ArePrices.f a b c) (okP a b c) := Ev.congr (fun k => arePrices_some a b c) (Ev.now _)
  cases hk : okP a b c with
  | false =>
    rw [hk] at hg hp
    refine ⟨(0, false), ?_, ?_⟩
    · unfold spec_CostOf.f; exact Ev.bind hg (Ev.congr (fun k => if_ff _ _) (Ev.now _))
    · unfold impl_CostOf.f; exact Ev.bind hp (Ev.congr (fun k => if_ff _ _) (Ev.now _))
  | true =>
    rw [hk] at hg hp
    cases hc : Hand.aDrop 1000 (l.map tup) with
    | true =>
      rw [hc] at hs hi
      obtain ⟨o, h1, h2⟩ := cost_both a b c l hl hc
      refine ⟨(o, true), ?_, ?_⟩
      · unfold spec_CostOf.f; exact Ev.bind hg (Ev.congr (fun k => if_pos rfl) (Ev.bind hs (Ev.congr (fun k => if_pos rfl) (Ev.bind h2 (Ev.now _)))))
      · unfold impl_CostOf.f; exact Ev.bind hp (Ev.congr (fun k => if_pos rfl) (Ev.bind hi (Ev.congr (fun k => if_pos rfl) (Ev.bind h1 (Ev.now _)))))
    | false =>
      rw [hc] at hs hi
      refine ⟨(0, false), ?_, ?_⟩
      · unfold spec_CostOf.f; exact Ev.bind hg (Ev.congr (fun k => if_pos rfl) (Ev.bind hs (Ev.congr (fun k => if_ff _ _) (Ev.now _))))
      · unfold impl_CostOf.f; exact Ev.bind hp (Ev.congr (fun k => if_pos rfl) (Ev.bind hi (Ev.congr (fun k => if_ff _ _) (Ev.now _))))

theorem FnExactCostOf : laws_FnExactCostOf.Pure := by
  intro a b c l1 hm
  apply Ev.rounds
  unfold laws_FnExactCostOf.f
  by_cases h : l1.length ≤ 1000000
  · have ht := laws_toDropS.ev l1 h
    obtain ⟨r, hs, hi⟩ := law_both a b c (l1.map cvDrop) (by rw [List.length_map]; omega)
    have hp : Ev (fun _ => laws_toPrices.f a b c) (a, b, c) := Ev.now _
    have hx : Ev (fun k => laws_intactDropS.f k (l1.map cvDrop) (l1.map cvDrop)) true := laws_eqDropS_same _ (by rw [List.length_map]; omega)
    refine Ev.congr (f := _) (fun k => by rw [szDrop_ev l1 h, Option.bind_some, if_neg (by omega)]) ?_
    refine Ev.bind hp ?_
    refine Ev.bind (ht false) ?_
    refine Ev.bind hs ?_
    refine Ev.bind (ht false) ?_
    refine Ev.bind hp ?_
    refine Ev.bind hi ?_
    refine Ev.congr (fun k => if_pos rfl) ?_
    refine Ev.congr (fun k => if_neg (by simp)) ?_
    refine Ev.bind (ht false) ?_
    refine Ev.bind hx ?_
    refine Ev.congr (fun k => if_pos rfl) ?_
    refine Ev.bind hp ?_
    refine Ev.bind (ht true) ?_
    refine Ev.bind hi ?_
    refine Ev.congr (fun k => if_pos rfl) ?_
    refine Ev.congr (fun k => if_neg (by simp)) ?_
    exact Ev.now _
  · exact Ev.congr (f := fun _ => some true) (fun k => by rw [szDrop_big l1 h hm, Option.bind_some, if_pos (by omega)]) (Ev.now _)

end Go.Proofs.Ytlngkkdoikekbaa.Pure
