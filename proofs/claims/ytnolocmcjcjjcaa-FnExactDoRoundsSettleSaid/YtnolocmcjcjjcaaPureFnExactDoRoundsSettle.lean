/- The program's DoRoundsSettle answers as the reference's does, and leaves the rows that it is given alone, for all numbers and lists; no conditions. -/
import Derived.Test.YtnolocmcjcjjcaaQFnExactDoRoundsSettlex
namespace Go.Proofs.Ytnolocmcjcjjcaa.Pure
open Go.RowKit Go.Proofs.Ytnolocmcjcjjcaa.QFnExactDoRoundsSettle Go.Proofs.YtnolocmcjcjjcaaW.PrintWords Go.Proofs.YtnolocmcjcjjcaaW.PrintLast Go.Proofs.YtnolocmcjcjjcaaW.PrintMore
set_option linter.unusedVariables false

theorem wrap64_small {x : Int} (h0 : -9223372036854775808 ≤ x) (h1 : x < 9223372036854775808) : wrap64 x = x := by
  unfold wrap64; omega
theorem l1In_some (a b c : Int) : spec_l1In.f a b c = some (decide (b ≤ a ∧ a ≤ c)) := by
  unfold spec_l1In.f
  by_cases h : a ≥ b
  · rw [if_pos h]; congr 1; rw [Bool.eq_iff_iff]; simp; omega
  · rw [if_neg h]; congr 1; symm; rw [decide_eq_false_iff_not]; omega
theorem l1In_yes {a b c : Int} (h : b ≤ a ∧ a ≤ c) : spec_l1In.f a b c = some true := by rw [l1In_some, decide_eq_true h]
theorem l1In_no {a b c : Int} (h : ¬ (b ≤ a ∧ a ≤ c)) : spec_l1In.f a b c = some false := by rw [l1In_some, decide_eq_false h]
theorem if_ff {α : Type} (x y : α) : (if false = true then x else y) = y := if_neg (by decide)

theorem rnn_some (a b c : Int) : spec_l1In.f a b c = some (Rd.inn a b c) := by rw [l1In_some]; unfold Rd.inn; rw [Bool.decide_and]
theorem rdI_nat (l : List Int) (i : Nat) (h : i < l.length) : rd l (i : Int) = l[i] := by unfold rd; simp [h]
theorem l1Rising_go (a : Int) (l : List Int) (hl : l.length < 1000000000000) (d : Nat) : ∀ (i : Nat), i + d = l.length → Ev (fun k => spec_l1Rising.l0 k l 1 a l (l.length : Int) (i : Int)) ((List.range' i d).all (Rd.okAt a l)) := by
  induction d with
  | zero =>
    intro i hi
    refine Ev.step (f := fun _ => some true) (fun k => ?_) (Ev.now _)
    simp only [spec_l1Rising.l0]; rw [if_neg (by omega)]
  | succ d ih =>
    intro i hi
    have hlt : i < l.length := by omega
    have hw : wrap64 ((i : Int) + 1) = ((i + 1 : Nat) : Int) := wrap64_small (by omega) (by omega)
    have hg : l.getD i 0 = l[i] := Rd.getD_at l i hlt
    rw [show List.range' i (d + 1) = i :: List.range' (i + 1) d from rfl, List.all_cons]
    cases hc : Rd.inn l[i] 1 a with
    | false =>
      rw [show Rd.okAt a l i = false by unfold Rd.okAt; rw [hg, hc]; rfl, Bool.false_and]
      refine Ev.step (f := fun _ => some false) (fun k => ?_) (Ev.now _)
      simp only [spec_l1Rising.l0]
      rw [if_pos (by omega), if_pos (by omega), if_pos (by omega), rdI_nat l i hlt, rnn_some, hc, Option.bind_some, if_ff]
    | true =>
      by_cases h0 : i = 0
      · rw [show Rd.okAt a l i = true by unfold Rd.okAt; rw [hg, hc, decide_eq_true h0]; rfl, Bool.true_and]
        refine Ev.step (f := fun k => spec_l1Rising.l0 k l 1 a l (l.length : Int) ((i + 1 : Nat) : Int)) (fun k => ?_) (ih (i + 1) (by omega))
        simp only [spec_l1Rising.l0]
        rw [if_pos (by omega), if_pos (by omega), if_pos (by omega), rdI_nat l i hlt, rnn_some, hc, Option.bind_some, if_pos rfl, if_neg (by omega), hw]
      · have hm : wrap64 ((i : Int) - 1) = ((i - 1 : Nat) : Int) := (wrap64_small (by omega) (by omega)).trans (by omega)
        have hg2 : l.getD (i - 1) 0 = l[i - 1] := Rd.getD_at l (i - 1) (by omega)
        by_cases h1 : l[i - 1] ≥ l[i]
        · rw [show Rd.okAt a l i = false by unfold Rd.okAt; rw [hg, hg2, hc, decide_eq_false h0, decide_eq_false (by omega)]; rfl, Bool.false_and]
          refine Ev.step (f := fun _ => some false) (fun k => ?_) (Ev.now _)
          simp only [spec_l1Rising.l0]
          rw [if_pos (by omega), if_pos (by omega), if_pos (by omega), rdI_nat l i hlt, rnn_some, hc, Option.bind_some, if_pos rfl, if_pos (by omega), hm, if_pos (by omega), if_pos (by omega), rdI_nat l (i - 1) (by omega), if_pos h1]
        · rw [show Rd.okAt a l i = true by unfold Rd.okAt; rw [hg, hg2, hc, decide_eq_false h0, decide_eq_true (by omega)]; rfl, Bool.true_and]
          refine Ev.step (f := fun k => spec_l1Rising.l0 k l 1 a l (l.length : Int) ((i + 1 : Nat) : Int)) (fun k => ?_) (ih (i + 1) (by omega))
          simp only [spec_l1Rising.l0]
          rw [if_pos (by omega), if_pos (by omega), if_pos (by omega), rdI_nat l i hlt, rnn_some, hc, Option.bind_some, if_pos rfl, if_pos (by omega), hm, if_pos (by omega), if_pos (by omega), rdI_nat l (i - 1) (by omega), if_neg h1, hw]
theorem l1Rising_ev (a : Int) (l : List Int) (hl : l.length < 1000000000000) : Ev (fun k => spec_l1Rising.f k l 1 a) (Rd.rising a l) := l1Rising_go a l hl l.length 0 (by omega)
theorem roTold_go (h a : Int) (ls : List (List Int)) (hl : ls.length < 1000000000000) (hi : ∀ x ∈ ls, x.length < 1000000000000) (d : Nat) : ∀ (i : Nat), i + d = ls.length → Ev (fun k => spec_roTold.l0 k h a ls (ls.length : Int) (i : Int)) (!((ls.drop i).any (Rd.bad h a))) := by
  induction d with
  | zero =>
    intro i hd
    rw [List.drop_eq_nil_of_le (by omega)]
    refine Ev.step (f := fun _ => some true) (fun k => ?_) (Ev.now _)
    simp only [spec_roTold.l0]; rw [if_neg (by omega)]
  | succ d ih =>
    intro i hd
    have hlt : i < ls.length := by omega
    have hw : wrap64 ((i : Int) + 1) = ((i + 1 : Nat) : Int) := wrap64_small (by omega) (by omega)
    rw [List.drop_eq_getElem_cons hlt, List.any_cons]
    by_cases hc : (ls[i].length : Int) > h
    · rw [show Rd.bad h a ls[i] = true by unfold Rd.bad; rw [decide_eq_true hc]; rfl, Bool.true_or]
      refine Ev.step (f := fun _ => some false) (fun k => ?_) (Ev.now _)
      simp only [spec_roTold.l0]
      rw [if_pos (by omega), if_pos (by omega), if_pos (by omega), rd_atSS ls i hlt, if_pos hc]
    · refine Ev.step (f := fun k => (spec_l1Rising.f k ls[i] 1 a).bind fun t => if t = true then spec_roTold.l0 k h a ls (ls.length : Int) ((i + 1 : Nat) : Int) else some false) (fun k => ?_) ?_
      · simp only [spec_roTold.l0]
        rw [if_pos (by omega), if_pos (by omega), if_pos (by omega), rd_atSS ls i hlt, if_neg hc, hw]
      · refine Ev.bind (f := fun k t => if t = true then spec_roTold.l0 k h a ls (ls.length : Int) ((i + 1 : Nat) : Int) else some false) (l1Rising_ev a ls[i] (hi _ (List.getElem_mem hlt))) ?_
        cases hr : Rd.rising a ls[i] with
        | true =>
          rw [show Rd.bad h a ls[i] = false by unfold Rd.bad; rw [decide_eq_false hc, hr]; rfl, Bool.false_or]
          exact Ev.congr (f := _) (fun k => if_pos rfl) (ih (i + 1) (by omega))
        | false =>
          rw [show Rd.bad h a ls[i] = true by unfold Rd.bad; rw [decide_eq_false hc, hr]; rfl, Bool.true_or]
          exact Ev.congr (f := fun _ => some false) (fun k => if_ff _ _) (Ev.now _)
theorem roTold_ev (h a : Int) (ls : List (List Int)) (hs : Rr.Small ls) : Ev (fun k => spec_roTold.f k h a ls) (Rd.told h a ls) := by
  have hl := hs.1
  have hi : ∀ x ∈ ls, x.length < 1000000000000 := fun x hx => by have := hs.2 x hx; omega
  unfold Rd.told
  have out : Ev (fun k => spec_roTold.j0 k h a ls true) false := Ev.step (f := fun _ => some false) (fun k => by simp only [spec_roTold.j0]; exact if_pos trivial) (Ev.now _)
  cases h1 : Rd.inn h 1 10 with
  | false =>
    rw [Bool.false_and]
    exact Ev.congr (f := fun k => spec_roTold.j0 k h a ls true) (fun k => by unfold spec_roTold.f; rw [rnn_some, h1, Option.bind_some, if_ff]) out
  | true =>
    rw [Bool.true_and]
    cases h2 : Rd.inn a 0 1000 with
    | false =>
      rw [Bool.false_and]
      exact Ev.congr (f := fun k => spec_roTold.j0 k h a ls true) (fun k => by unfold spec_roTold.f; rw [rnn_some, h1, Option.bind_some, if_pos rfl, rnn_some, h2, Option.bind_some, if_ff]) out
    | true =>
      rw [Bool.true_and]
      by_cases h3 : ls.length ≤ 20
      · rw [decide_eq_true h3, Bool.true_and]
        refine Ev.congr (f := fun k => spec_roTold.j0 k h a ls false) (fun k => ?_) (Ev.step (f := fun k => spec_roTold.l0 k h a ls (ls.length : Int) ((0 : Nat) : Int)) (fun k => ?_) (roTold_go h a ls (by omega) hi ls.length 0 (by omega)))
        · unfold spec_roTold.f; rw [rnn_some, h1, Option.bind_some, if_pos rfl, rnn_some, h2, Option.bind_some, if_pos rfl, show decide ((ls.length : Int) > 20) = false from decide_eq_false (by omega)]
        · simp only [spec_roTold.j0]; rw [if_ff]; rfl
      · rw [decide_eq_false h3, Bool.false_and]
        exact Ev.congr (f := fun k => spec_roTold.j0 k h a ls true) (fun k => by unfold spec_roTold.f; rw [rnn_some, h1, Option.bind_some, if_pos rfl, rnn_some, h2, Option.bind_some, if_pos rfl, show decide ((ls.length : Int) > 20) = true from decide_eq_true (by omega)]) out
theorem szSS_l0 (l : List (List Int)) (hl : l.length ≤ 1000000) (hm : ∀ x ∈ l, x.length ≤ 9223372036854775807) (d : Nat) : ∀ (i : Nat) (x1 : Int), 0 ≤ x1 → x1 ≤ 1000000 → i + d = l.length → ∃ t, Ev (fun k => laws_szIntSS.l0 k l x1 (i : Int)) t := by
  induction d with
  | zero =>
    intro i x1 _ _ hd
    exact ⟨x1, Ev.step (f := fun _ => some x1) (fun k => by simp only [laws_szIntSS.l0]; rw [if_neg (by omega)]) (Ev.now _)⟩
  | succ d ih =>
    intro i x1 h0 h1 hd
    have hlt : i < l.length := by omega
    have hm1 := hm l[i] (List.getElem_mem hlt)
    have hw : wrap64 (x1 - (l[i].length : Int)) = x1 - (l[i].length : Int) := wrap64_small (by omega) (by omega)
    by_cases c : x1 - (l[i].length : Int) < 0
    · refine ⟨-1, Ev.step (f := fun _ => some (-1)) (fun k => ?_) (Ev.now _)⟩
      simp only [laws_szIntSS.l0]
      rw [if_pos (by omega), if_pos (by omega), rd_atSS l i hlt]
      unfold laws_szIntS.f
      rw [hw, if_pos c, Option.bind_some, if_pos (by decide)]
    · obtain ⟨t, ht⟩ := ih (i + 1) (x1 - (l[i].length : Int)) (by omega) (by omega) (by omega)
      refine ⟨t, Ev.step (f := fun k => laws_szIntSS.l0 k l (x1 - (l[i].length : Int)) ((i + 1 : Nat) : Int)) (fun k => ?_) ht⟩
      simp only [laws_szIntSS.l0]
      rw [if_pos (by omega), if_pos (by omega), rd_atSS l i hlt]
      unfold laws_szIntS.f
      rw [hw, if_neg c, Option.bind_some, if_neg c, show wrap64 ((i : Int) + 1) = ((i + 1 : Nat) : Int) from wrap64_small (by omega) (by omega)]
theorem szSS_ev (l : List (List Int)) (h2 : l.length ≤ 9223372036854775807) (hm : ∀ x ∈ l, x.length ≤ 9223372036854775807) : ∃ t, Ev (fun k => laws_szIntSS.f k l 1000000) t := by
  have e : wrap64 (1000000 - (l.length : Int)) = 1000000 - (l.length : Int) := wrap64_small (by omega) (by omega)
  by_cases c : (1000000 - (l.length : Int)) < 0
  · exact ⟨-1, Ev.congr (f := fun _ => some (-1)) (fun k => by unfold laws_szIntSS.f; rw [e, if_pos c]) (Ev.now _)⟩
  · obtain ⟨t, ht⟩ := szSS_l0 l (by omega) hm l.length 0 (1000000 - (l.length : Int)) (by omega) (by omega) (by omega)
    exact ⟨t, Ev.congr (f := fun k => laws_szIntSS.l0 k l (1000000 - (l.length : Int)) ((0 : Nat) : Int)) (fun k => by unfold laws_szIntSS.f; rw [e, if_neg c]; rfl) ht⟩
/-- Where the size is small enough the rows are few and short. -/
theorem szSS_both (l : List (List Int)) (h2 : l.length ≤ 9223372036854775807) (hm : ∀ x ∈ l, x.length ≤ 9223372036854775807) : ∃ t, Ev (fun k => laws_szIntSS.f k l 1000000) t ∧ (¬ t < 0 → Rr.Small l) := by
  obtain ⟨t, ht⟩ := szSS_ev l h2 hm
  refine ⟨t, ht, fun hn => ?_⟩
  obtain ⟨k, hk⟩ := ht.rounds
  exact laws_szIntSS.le hk (decide_eq_false hn) h2 hm

theorem l1Has_go (f : Int) (l : List Int) (hl : l.length ≤ 1000000) (d : Nat) : ∀ (i : Nat), i + d = l.length → Ev (fun k => spec_l1Has.l0 k f l (l.length : Int) (i : Int)) (Rd.hasR f (l.drop i)) := by
  unfold Rd.hasR
  induction d with
  | zero =>
    intro i hd
    refine Ev.step (f := fun _ => some false) (fun k => ?_) ?_
    · simp only [spec_l1Has.l0]; rw [if_neg (by omega)]
    · rw [List.drop_eq_nil_of_le (by omega)]; exact Ev.now _
  | succ d ih =>
    intro i hd
    have hlt : i < l.length := by omega
    have hw : wrap64 ((i : Int) + 1) = ((i + 1 : Nat) : Int) := wrap64_small (by omega) (by omega)
    rw [List.drop_eq_getElem_cons hlt, List.any_cons]
    by_cases c : l[i] = f
    · rw [decide_eq_true c.symm, Bool.true_or]
      refine Ev.step (f := fun _ => some true) (fun k => ?_) (Ev.now _)
      simp only [spec_l1Has.l0]
      rw [if_pos (by omega), if_pos (by omega), if_pos (by omega), rdI_nat l i hlt, if_pos c]
    · rw [decide_eq_false (fun e => c e.symm), Bool.false_or]
      refine Ev.step (f := fun k => spec_l1Has.l0 k f l (l.length : Int) ((i + 1 : Nat) : Int)) (fun k => ?_) (ih (i + 1) (by omega))
      simp only [spec_l1Has.l0]
      rw [if_pos (by omega), if_pos (by omega), if_pos (by omega), rdI_nat l i hlt, if_neg c, hw]
theorem l1Has_ev (f : Int) (l : List Int) (hl : l.length ≤ 1000000) : Ev (fun k => spec_l1Has.f k l f) (Rd.hasR f l) := by
  have h := l1Has_go f l hl l.length 0 (by omega)
  rw [List.drop_zero] at h
  exact h
theorem settle_l1 (n : Int) (ls : List (List Int)) (hl : ls.length ≤ 1000000) (hi : ∀ x ∈ ls, x.length ≤ 1000000) (f : Int) (R : Bool × Bool) (hw : wrap64 (f + 1) = f + 1) (h0 : Rd.hasR f ls.flatten = true → Ev (fun k => spec_DoRoundsSettle.l0 k n ls (f + 1)) R) (h1 : Rd.hasR f ls.flatten = false → R = (false, true)) (d : Nat) : ∀ (i : Nat) (t : Bool), i + d = ls.length → (t || Rd.hasR f (ls.drop i).flatten) = Rd.hasR f ls.flatten → Ev (fun k => spec_DoRoundsSettle.l1 k n ls f t ls (ls.length : Int) (i : Int)) R := by
  induction d with
  | zero =>
    intro i t hd he
    rw [List.drop_eq_nil_of_le (by omega)] at he
    have he2 : t = Rd.hasR f ls.flatten := by rw [← he]; cases t <;> rfl
    subst he2
    cases hq : Rd.hasR f ls.flatten with
    | true => exact Ev.step (f := fun k => spec_DoRoundsSettle.l0 k n ls (f + 1)) (fun k => by simp only [spec_DoRoundsSettle.l1]; rw [if_neg (by omega), if_pos trivial, hw]) (h0 hq)
    | false => rw [h1 hq]; exact Ev.step (f := fun _ => some (false, true)) (fun k => by simp only [spec_DoRoundsSettle.l1]; rw [if_neg (by omega), if_ff]) (Ev.now _)
  | succ d ih =>
    intro i t hd he
    have hlt : i < ls.length := by omega
    have hwi : wrap64 ((i : Int) + 1) = ((i + 1 : Nat) : Int) := wrap64_small (by omega) (by omega)
    rw [List.drop_eq_getElem_cons hlt, List.flatten_cons] at he
    have happ : Rd.hasR f (ls[i] ++ (ls.drop (i + 1)).flatten) = (Rd.hasR f ls[i] || Rd.hasR f (ls.drop (i + 1)).flatten) := by unfold Rd.hasR; rw [List.any_append]
    rw [happ] at he
    cases t with
    | true =>
      refine Ev.step (f := fun k => spec_DoRoundsSettle.l1 k n ls f true ls (ls.length : Int) ((i + 1 : Nat) : Int)) (fun k => ?_) (ih (i + 1) true (by omega) (by rw [← he, Bool.true_or, Bool.true_or]))
      simp only [spec_DoRoundsSettle.l1]
      rw [if_pos (by omega), if_pos (by omega), if_pos (by omega), if_pos trivial, hwi]
    | false =>
      refine Ev.step (f := fun k => (spec_l1Has.f k ls[i] f).bind fun t => spec_DoRoundsSettle.l1 k n ls f t ls (ls.length : Int) ((i + 1 : Nat) : Int)) (fun k => ?_) ?_
      · simp only [spec_DoRoundsSettle.l1]
        rw [if_pos (by omega), if_pos (by omega), if_pos (by omega), if_ff, rd_atSS ls i hlt, hwi]
      · refine Ev.bind (f := fun k t => spec_DoRoundsSettle.l1 k n ls f t ls (ls.length : Int) ((i + 1 : Nat) : Int)) (l1Has_ev f ls[i] (hi _ (List.getElem_mem hlt))) ?_
        exact ih (i + 1) _ (by omega) (by rw [← he, Bool.false_or])
theorem settle_go (n : Nat) (hn : n ≤ 1000) (ls : List (List Int)) (hl : ls.length ≤ 1000000) (hi : ∀ x ∈ ls, x.length ≤ 1000000) (d : Nat) : ∀ (f : Nat), 1 ≤ f → f + d = n + 1 → Ev (fun k => spec_DoRoundsSettle.l0 k (n : Int) ls (f : Int)) ((List.range' f d).all fun g => Rd.hasR (g : Int) ls.flatten, true) := by
  induction d with
  | zero =>
    intro f h1 hd
    refine Ev.step (f := fun _ => some (true, true)) (fun k => ?_) (Ev.now _)
    simp only [spec_DoRoundsSettle.l0]; rw [if_neg (by omega)]
  | succ d ih =>
    intro f h1 hd
    have hw : wrap64 ((f : Int) + 1) = (f : Int) + 1 := wrap64_small (by omega) (by omega)
    rw [show List.range' f (d + 1) = f :: List.range' (f + 1) d from rfl, List.all_cons]
    refine Ev.step (f := fun k => spec_DoRoundsSettle.l1 k (n : Int) ls (f : Int) false ls (ls.length : Int) ((0 : Nat) : Int)) (fun k => ?_) (settle_l1 (n : Int) ls hl hi (f : Int) _ hw (fun hq => ?_) (fun hq => ?_) ls.length 0 false (by omega) (by rw [Bool.false_or, List.drop_zero]))
    · simp only [spec_DoRoundsSettle.l0]; rw [if_pos (by omega)]; rfl
    · rw [hq, Bool.true_and]
      exact ih (f + 1) (by omega) (by omega)
    · rw [hq, Bool.false_and]
theorem spec_ev (h a : Int) (ls : List (List Int)) (hs : Rr.Small ls) : Ev (fun k => spec_DoRoundsSettle.f k h a ls) (Rd.settleRes h a ls) := by
  unfold Rd.settleRes
  unfold spec_DoRoundsSettle.f
  refine Ev.bind (roTold_ev h a ls hs) ?_
  cases ht : Rd.told h a ls with
  | false => exact Ev.congr (f := fun _ => some (false, false)) (fun k => if_ff _ _) (Ev.now _)
  | true =>
    have hfl := (Rd.told_parts ht).2.1
    obtain ⟨n, rfl⟩ : ∃ n : Nat, a = n := ⟨a.toNat, by omega⟩
    exact Ev.congr (f := fun k => spec_DoRoundsSettle.l0 k (n : Int) ls ((1 : Nat) : Int)) (fun k => by rw [if_pos rfl]; rfl) (settle_go n (by omega) ls hs.1 hs.2 n 1 (Nat.le_refl _) (by omega))

theorem FnExactDoRoundsSettle : laws_FnExactDoRoundsSettle.Pure := by
  intro a0 a1 l2 hm
  apply Ev.rounds
  unfold laws_FnExactDoRoundsSettle.f
  obtain ⟨t, ht, hsm⟩ := szSS_both l2 hm.1 hm.2
  refine Ev.bind ht ?_
  by_cases hn : t < 0
  · exact Ev.congr (f := fun _ => some true) (fun k => if_pos hn) (Ev.now _)
  · have hs := hsm hn
    have hto : ∀ b, Ev (fun k => laws_toIntSS.f k l2 b) l2 := fun b => Ev.now _
    have hsp : Ev (fun k => spec_DoRoundsSettle.f k a0 a1 l2) (Rd.settleRes a0 a1 l2) := spec_ev a0 a1 l2 hs
    have him : Ev (fun k => impl_DoRoundsSettle.f k a0 a1 l2) (Rd.settleRes a0 a1 l2) := Ev.now _
    have hx : Ev (fun k => laws_intactIntSS.f k l2 l2) true := Ev.now _
    refine Ev.congr (f := _) (fun k => if_neg hn) ?_
    refine Ev.bind (hto false) ?_
    refine Ev.bind hsp ?_
    refine Ev.bind (hto false) ?_
    refine Ev.bind him ?_
    refine Ev.congr (fun k => if_neg (by simp)) ?_
    refine Ev.congr (fun k => if_neg (by simp)) ?_
    refine Ev.bind (hto false) ?_
    refine Ev.bind hx ?_
    refine Ev.congr (fun k => if_pos rfl) ?_
    refine Ev.bind (hto true) ?_
    refine Ev.bind him ?_
    refine Ev.congr (fun k => if_neg (by simp)) ?_
    refine Ev.congr (fun k => if_neg (by simp)) ?_
    exact Ev.now _

end Go.Proofs.Ytnolocmcjcjjcaa.Pure
