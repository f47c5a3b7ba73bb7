/- The program's OpenAfterRounds answers as the reference's does, and leaves the rows that it is given alone, for all numbers and lists; no conditions. -/
import Derived.Test.YtnolocmcjcjjcaaQFnExactOpenAfterRoundsx
namespace Go.Proofs.Ytnolocmcjcjjcaa.Pure
open Go.RowKit Go.Proofs.Ytnolocmcjcjjcaa.QFnExactOpenAfterRounds Go.Proofs.YtnolocmcjcjjcaaW.PrintWords Go.Proofs.YtnolocmcjcjjcaaW.PrintLast Go.Proofs.YtnolocmcjcjjcaaW.PrintMore
set_option linter.unusedVariables false

theorem wrap64_small {x : Int} (h0 : -9223372036854775808 ≤ x) (h1 : x < 9223372036854775808) : wrap64 x = x := by
  unfold wrap64; omega
theorem l1In_some (a b c : Int) : spec_l1In.f a b c = some (decide (b ≤ a ∧ a ≤ c)) := by
  unfold spec_l1In.f
  by_cases h : a ≥ b
  · rw [if_pos h]; congr 1; rw [Bool.eq_iff_iff]; simp; omega
  · rw [if_neg h]; congr 1; symm; rw [decide_eq_false_iff_not]; omega
theorem l1In_yes {a b c : Int} (h : b ≤ a ∧ a ≤ c) : spec_l1In.f a b c = some true := by rw [l1In_some, decide_eq_true h]
theorem l1In_no {a b c : Int} (h : ¬ (b ≤ a ∧ a ≤ c)) : spec_l1In.f a b c = some false := by rw [l1In_some, decide_eq_false h]
theorem if_ff {α : Type} (x y : α) : (if false = true then x else y) = y := if_neg (by decide)

theorem rnn_some (a b c : Int) : spec_l1In.f a b c = some (Rd.inn a b c) := by rw [l1In_some]; unfold Rd.inn; rw [Bool.decide_and]
theorem rdI_nat (l : List Int) (i : Nat) (h : i < l.length) : rd l (i : Int) = l[i] := by unfold rd; simp [h]
theorem l1Rising_go (a : Int) (l : List Int) (hl : l.length < 1000000000000) (d : Nat) : ∀ (i : Nat), i + d = l.length → Ev (fun k => spec_l1Rising.l0 k l 1 a l (l.length : Int) (i : Int)) ((List.range' i d).all (Rd.okAt a l)) := by
  induction d with
  | zero =>
    intro i hi
    refine Ev.step (f := fun _ => some true) (fun k => ?_) (Ev.now _)
    simp only [spec_l1Rising.l0]; rw [if_neg (by omega)]
  | succ d ih =>
    intro i hi
    have hlt : i < l.length := by omega
    have hw : wrap64 ((i : Int) + 1) = ((i + 1 : Nat) : Int) := wrap64_small (by omega) (by omega)
    have hg : l.getD i 0 = l[i] := Rd.getD_at l i hlt
    rw [show List.range' i (d + 1) = i :: List.range' (i + 1) d from rfl, List.all_cons]
    cases hc : Rd.inn l[i] 1 a with
    | false =>
      rw [show Rd.okAt a l i = false by unfold Rd.okAt; rw [hg, hc]; rfl, Bool.false_and]
      refine Ev.step (f := fun _ => some false) (fun k => ?_) (Ev.now _)
      simp only [spec_l1Rising.l0]
      rw [if_pos (by omega), if_pos (by omega), if_pos (by omega), rdI_nat l i hlt, rnn_some, hc, Option.bind_some, if_ff]
    | true =>
      by_cases h0 : i = 0
      · rw [show Rd.okAt a l i = true by unfold Rd.okAt; rw [hg, hc, decide_eq_true h0]; rfl, Bool.true_and]
        refine Ev.step (f := fun k => spec_l1Rising.l0 k l 1 a l (l.length : Int) ((i + 1 : Nat) : Int)) (fun k => ?_) (ih (i + 1) (by omega))
        simp only [spec_l1Rising.l0]
        rw [if_pos (by omega), if_pos (by omega), if_pos (by omega), rdI_nat l i hlt, rnn_some, hc, Option.bind_some, if_pos rfl, if_neg (by omega), hw]
      · have hm : wrap64 ((i : Int) - 1) = ((i - 1 : Nat) : Int) := (wrap64_small (by omega) (by omega)).trans (by omega)
        have hg2 : l.getD (i - 1) 0 = l[i - 1] := Rd.getD_at l (i - 1) (by omega)
        by_cases h1 : l[i - 1] ≥ l[i]
        · rw [show Rd.okAt a l i = false by unfold Rd.okAt; rw [hg, hg2, hc, decide_eq_false h0, decide_eq_false (by omega)]; rfl, Bool.false_and]
          refine Ev.step (f := fun _ => some false) (fun k => ?_) (Ev.now _)
          simp only [spec_l1Rising.l0]
          rw [if_pos (by omega), if_pos (by omega), if_pos (by omega), rdI_nat l i hlt, rnn_some, hc, Option.bind_some, if_pos rfl, if_pos (by omega), hm, if_pos (by omega), if_pos (by omega), rdI_nat l (i - 1) (by omega), if_pos h1]
        · rw [show Rd.okAt a l i = true by unfold Rd.okAt; rw [hg, hg2, hc, decide_eq_false h0, decide_eq_true (by omega)]; rfl, Bool.true_and]
          refine Ev.step (f := fun k => spec_l1Rising.l0 k l 1 a l (l.length : Int) ((i + 1 : Nat) : Int)) (fun k => ?_) (ih (i + 1) (by omega))
          simp only [spec_l1Rising.l0]
          rw [if_pos (by omega), if_pos (by omega), if_pos (by omega), rdI_nat l i hlt, rnn_some, hc, Option.bind_some, if_pos rfl, if_pos (by omega), hm, if_pos (by omega), if_pos (by omega), rdI_nat l (i - 1) (by omega), if_neg h1, hw]
theorem l1Rising_ev (a : Int) (l : List Int) (hl : l.length < 1000000000000) : Ev (fun k => spec_l1Rising.f k l 1 a) (Rd.rising a l) := l1Rising_go a l hl l.length 0 (by omega)
theorem roTold_go (h a : Int) (ls : List (List Int)) (hl : ls.length < 1000000000000) (hi : ∀ x ∈ ls, x.length < 1000000000000) (d : Nat) : ∀ (i : Nat), i + d = ls.length → Ev (fun k => spec_roTold.l0 k h a ls (ls.length : Int) (i : Int)) (!((ls.drop i).any (Rd.bad h a))) := by
  induction d with
  | zero =>
    intro i hd
    rw [List.drop_eq_nil_of_le (by omega)]
    refine Ev.step (f := fun _ => some true) (fun k => ?_) (Ev.now _)
    simp only [spec_roTold.l0]; rw [if_neg (by omega)]
  | succ d ih =>
    intro i hd
    have hlt : i < ls.length := by omega
    have hw : wrap64 ((i : Int) + 1) = ((i + 1 : Nat) : Int) := wrap64_small (by omega) (by omega)
    rw [List.drop_eq_getElem_cons hlt, List.any_cons]
    by_cases hc : (ls[i].length : Int) > h
    · rw [show Rd.bad h a ls[i] = true by unfold Rd.bad; rw [decide_eq_true hc]; rfl, Bool.true_or]
      refine Ev.step (f := fun _ => some false) (fun k => ?_) (Ev.now _)
      simp only [spec_roTold.l0]
      rw [if_pos (by omega), if_pos (by omega), if_pos (by omega), rd_atSS ls i hlt, if_pos hc]
    · refine Ev.step (f := fun k => (spec_l1Rising.f k ls[i] 1 a).bind fun t => if t = true then spec_roTold.l0 k h a ls (ls.length : Int) ((i + 1 : Nat) : Int) else some false) (fun k => ?_) ?_
      · simp only [spec_roTold.l0]
        rw [if_pos (by omega), if_pos (by omega), if_pos (by omega), rd_atSS ls i hlt, if_neg hc, hw]
      · refine Ev.bind (f := fun k t => if t = true then spec_roTold.l0 k h a ls (ls.length : Int) ((i + 1 : Nat) : Int) else some false) (l1Rising_ev a ls[i] (hi _ (List.getElem_mem hlt))) ?_
        cases hr : Rd.rising a ls[i] with
        | true =>
          rw [show Rd.bad h a ls[i] = false by unfold Rd.bad; rw [decide_eq_false hc, hr]; rfl, Bool.false_or]
          exact Ev.congr (f := _) (fun k => if_pos rfl) (ih (i + 1) (by omega))
        | false =>
          rw [show Rd.bad h a ls[i] = true by unfold Rd.bad; rw [decide_eq_false hc, hr]; rfl, Bool.true_or]
          exact Ev.congr (f := fun _ => some false) (fun k => if_ff _ _) (Ev.now _)
theorem roTold_ev (h a : Int) (ls : List (List Int)) (hs : Rr.Small ls) : Ev (fun k => spec_roTold.f k h a ls) (Rd.told h a ls) := by
  have hl := hs.1
  have hi : ∀ x ∈ ls, x.length < 1000000000000 := fun x hx => by have := hs.2 x hx; omega
  unfold Rd.told
  have out : Ev (fun k => spec_roTold.j0 k h a ls true) false := Ev.step (f := fun _ => some false) (fun k => by simp only [spec_roTold.j0]; exact if_pos trivial) (Ev.now _)
  cases h1 : Rd.inn h 1 10 with
  | false =>
    rw [Bool.false_and]
    exact Ev.congr (f := fun k => spec_roTold.j0 k h a ls true) (fun k => by unfold spec_roTold.f; rw [rnn_some, h1, Option.bind_some, if_ff]) out
  | true =>
    rw [Bool.true_and]
    cases h2 : Rd.inn a 0 1000 with
    | false =>
      rw [Bool.false_and]
      exact Ev.congr (f := fun k => spec_roTold.j0 k h a ls true) (fun k => by unfold spec_roTold.f; rw [rnn_some, h1, Option.bind_some, if_pos rfl, rnn_some, h2, Option.bind_some, if_ff]) out
    | true =>
      rw [Bool.true_and]
      by_cases h3 : ls.length ≤ 20
      · rw [decide_eq_true h3, Bool.true_and]
        refine Ev.congr (f := fun k => spec_roTold.j0 k h a ls false) (fun k => ?_) (Ev.step (f := fun k => spec_roTold.l0 k h a ls (ls.length : Int) ((0 : Nat) : Int)) (fun k => ?_) (roTold_go h a ls (by omega) hi ls.length 0 (by omega)))
        · unfold spec_roTold.f; rw [rnn_some, h1, Option.bind_some, if_pos rfl, rnn_some, h2, Option.bind_some, if_pos rfl, show decide ((ls.length : Int) > 20) = false from decide_eq_false (by omega)]
        · simp only [spec_roTold.j0]; rw [if_ff]; rfl
      · rw [decide_eq_false h3, Bool.false_and]
        exact Ev.congr (f := fun k => spec_roTold.j0 k h a ls true) (fun k => by unfold spec_roTold.f; rw [rnn_some, h1, Option.bind_some, if_pos rfl, rnn_some, h2, Option.bind_some, if_pos rfl, show decide ((ls.length : Int) > 20) = true from decide_eq_true (by omega)]) out
theorem szSS_l0 (l : List (List Int)) (hl : l.length ≤ 1000000) (hm : ∀ x ∈ l, x.length ≤ 9223372036854775807) (d : Nat) : ∀ (i : Nat) (x1 : Int), 0 ≤ x1 → x1 ≤ 1000000 → i + d = l.length → ∃ t, Ev (fun k => laws_szIntSS.l0 k l x1 (i : Int)) t := by
  induction d with
  | zero =>
    intro i x1 _ _ hd
    exact ⟨x1, Ev.step (f := fun _ => some x1) (fun k => by simp only [laws_szIntSS.l0]; rw [if_neg (by omega)]) (Ev.now _)⟩
  | succ d ih =>
    intro i x1 h0 h1 hd
    have hlt : i < l.length := by omega
    have hm1 := hm l[i] (List.getElem_mem hlt)
    have hw : wrap64 (x1 - (l[i].length : Int)) = x1 - (l[i].length : Int) := wrap64_small (by omega) (by omega)
    by_cases c : x1 - (l[i].length : Int) < 0
    · refine ⟨-1, Ev.step (f := fun _ => some (-1)) (fun k => ?_) (Ev.now _)⟩
      simp only [laws_szIntSS.l0]
      rw [if_pos (by omega), if_pos (by omega), rd_atSS l i hlt]
      unfold laws_szIntS.f
      rw [hw, if_pos c, Option.bind_some, if_pos (by decide)]
    · obtain ⟨t, ht⟩ := ih (i + 1) (x1 - (l[i].length : Int)) (by omega) (by omega) (by omega)
      refine ⟨t, Ev.step (f := fun k => laws_szIntSS.l0 k l (x1 - (l[i].length : Int)) ((i + 1 : Nat) : Int)) (fun k => ?_) ht⟩
      simp only [laws_szIntSS.l0]
      rw [if_pos (by omega), if_pos (by omega), rd_atSS l i hlt]
      unfold laws_szIntS.f
      rw [hw, if_neg c, Option.bind_some, if_neg c, show wrap64 ((i : Int) + 1) = ((i + 1 : Nat) : Int) from wrap64_small (by omega) (by omega)]
theorem szSS_ev (l : List (List Int)) (h2 : l.length ≤ 9223372036854775807) (hm : ∀ x ∈ l, x.length ≤ 9223372036854775807) : ∃ t, Ev (fun k => laws_szIntSS.f k l 1000000) t := by
  have e : wrap64 (1000000 - (l.length : Int)) = 1000000 - (l.length : Int) := wrap64_small (by omega) (by omega)
  by_cases c : (1000000 - (l.length : Int)) < 0
  · exact ⟨-1, Ev.congr (f := fun _ => some (-1)) (fun k => by unfold laws_szIntSS.f; rw [e, if_pos c]) (Ev.now _)⟩
  · obtain ⟨t, ht⟩ := szSS_l0 l (by omega) hm l.length 0 (1000000 - (l.length : Int)) (by omega) (by omega) (by omega)
    exact ⟨t, Ev.congr (f := fun k => laws_szIntSS.l0 k l (1000000 - (l.length : Int)) ((0 : Nat) : Int)) (fun k => by unfold laws_szIntSS.f; rw [e, if_neg c]; rfl) ht⟩
/-- Where the size is small enough the rows are few and short. -/
theorem szSS_both (l : List (List Int)) (h2 : l.length ≤ 9223372036854775807) (hm : ∀ x ∈ l, x.length ≤ 9223372036854775807) : ∃ t, Ev (fun k => laws_szIntSS.f k l 1000000) t ∧ (¬ t < 0 → Rr.Small l) := by
  obtain ⟨t, ht⟩ := szSS_ev l h2 hm
  refine ⟨t, ht, fun hn => ?_⟩
  obtain ⟨k, hk⟩ := ht.rounds
  exact laws_szIntSS.le hk (decide_eq_false hn) h2 hm

def stLow (b : Int) (a : Int) (f : Int) : Int := if f > b then a else max a f
def stHigh (b : Int) (a : Int) (f : Int) : Int := if f > b then min a (f - 1) else a
theorem openR_go (b : Int) (ls : List (List Int)) (hl : ls.length ≤ 1000000) (hi : ∀ x ∈ ls, x.length ≤ 1000000) (hf : ∀ x ∈ ls.flatten, 1 ≤ x ∧ x ≤ 1000) (d : Nat) : ∀ (i : Nat) (lo hg : Int), i + d = ls.length → Ev (fun k => spec_OpenAfterRounds.l0 k b lo hg ls (ls.length : Int) (i : Int)) ((ls.drop i).flatten.foldl (stLow b) lo, (ls.drop i).flatten.foldl (stHigh b) hg, true) := by
  induction d with
  | zero =>
    intro i lo hg hd
    refine Ev.step (f := fun _ => some (lo, hg, true)) (fun k => ?_) ?_
    · simp only [spec_OpenAfterRounds.l0]; rw [if_neg (by omega)]
    · rw [List.drop_eq_nil_of_le (by omega)]; exact Ev.now _
  | succ d ih =>
    intro i lo hg hd
    have hlt : i < ls.length := by omega
    have hw : wrap64 ((i : Int) + 1) = ((i + 1 : Nat) : Int) := wrap64_small (by omega) (by omega)
    have hrow := hi ls[i] (List.getElem_mem hlt)
    have hfr : ∀ x ∈ ls[i], 1 ≤ x ∧ x ≤ 1000 := fun x hx => hf x (List.mem_flatten.2 ⟨ls[i], List.getElem_mem hlt, hx⟩)
    rw [List.drop_eq_getElem_cons hlt, List.flatten_cons, List.foldl_append, List.foldl_append]
    have inner : ∀ (e j : Nat) (lo hg : Int), j + e = ls[i].length →
        Ev (fun k => spec_OpenAfterRounds.l1 k b lo hg ls (ls.length : Int) (i : Int) ls[i] (ls[i].length : Int) (j : Int)) ((ls.drop (i + 1)).flatten.foldl (stLow b) ((ls[i].drop j).foldl (stLow b) lo), (ls.drop (i + 1)).flatten.foldl (stHigh b) ((ls[i].drop j).foldl (stHigh b) hg), true) := by
      intro e
      induction e with
      | zero =>
        intro j lo hg he
        refine Ev.step (f := fun k => spec_OpenAfterRounds.l0 k b lo hg ls (ls.length : Int) ((i + 1 : Nat) : Int)) (fun k => ?_) ?_
        · simp only [spec_OpenAfterRounds.l1]; rw [if_neg (by omega), hw]
        · rw [List.drop_eq_nil_of_le (by omega)]
          exact ih (i + 1) lo hg (by omega)
      | succ e ih2 =>
        intro j lo hg he
        have hj : j < ls[i].length := by omega
        have hwj : wrap64 ((j : Int) + 1) = ((j + 1 : Nat) : Int) := wrap64_small (by omega) (by omega)
        have j0 : (0 : Int) ≤ (j : Int) := Int.natCast_nonneg j
        have j1 : (j : Int) < (ls[i].length : Int) := Int.ofNat_lt.mpr hj
        have hx := hfr ls[i][j] (List.getElem_mem hj)
        rw [List.drop_eq_getElem_cons hj, List.foldl_cons, List.foldl_cons]
        by_cases c : ls[i][j] > b
        · rw [show stLow b lo ls[i][j] = lo from if_pos c, show stHigh b hg ls[i][j] = min hg (ls[i][j] - 1) from if_pos c]
          refine Ev.step (f := fun k => spec_OpenAfterRounds.l1 k b lo (min hg (ls[i][j] - 1)) ls (ls.length : Int) (i : Int) ls[i] (ls[i].length : Int) ((j + 1 : Nat) : Int)) (fun k => ?_) (ih2 (j + 1) _ _ (by omega))
          simp only [spec_OpenAfterRounds.l1]
          rw [if_pos j1, if_pos j0, if_pos j1, rdI_nat ls[i] j hj, if_pos c, show wrap64 (ls[i][j] - 1) = ls[i][j] - 1 from wrap64_small (by omega) (by omega), hwj]
          unfold spec_l1Least.f
          by_cases q : hg < ls[i][j] - 1
          · rw [if_pos q, Option.bind_some, show min hg (ls[i][j] - 1) = hg by omega]
          · rw [if_neg q, Option.bind_some, show min hg (ls[i][j] - 1) = ls[i][j] - 1 by omega]
        · rw [show stLow b lo ls[i][j] = max lo ls[i][j] from if_neg c, show stHigh b hg ls[i][j] = hg from if_neg c]
          refine Ev.step (f := fun k => spec_OpenAfterRounds.l1 k b (max lo ls[i][j]) hg ls (ls.length : Int) (i : Int) ls[i] (ls[i].length : Int) ((j + 1 : Nat) : Int)) (fun k => ?_) (ih2 (j + 1) _ _ (by omega))
          simp only [spec_OpenAfterRounds.l1]
          rw [if_pos j1, if_pos j0, if_pos j1, rdI_nat ls[i] j hj, if_neg c, hwj]
          unfold spec_l1Most.f
          by_cases q : lo > ls[i][j]
          · rw [if_pos q, Option.bind_some, show max lo ls[i][j] = lo by omega]
          · rw [if_neg q, Option.bind_some, show max lo ls[i][j] = ls[i][j] by omega]
    refine Ev.step (f := fun k => spec_OpenAfterRounds.l1 k b lo hg ls (ls.length : Int) (i : Int) ls[i] (ls[i].length : Int) ((0 : Nat) : Int)) (fun k => ?_) ?_
    · simp only [spec_OpenAfterRounds.l0]
      rw [if_pos (by omega), if_pos (by omega), if_pos (by omega), rd_atSS ls i hlt]
      rfl
    · have h1 := inner ls[i].length 0 lo hg (by omega)
      rw [List.drop_zero] at h1
      exact h1
theorem spec_ev (h a b : Int) (ls : List (List Int)) (hs : Rr.Small ls) : Ev (fun k => spec_OpenAfterRounds.f k h a ls b) (Rd.openRes h a ls b) := by
  have hl := hs.1
  unfold Rd.openRes
  have out : Ev (fun k => spec_OpenAfterRounds.j0 k a ls b true) (0, 0, false) := Ev.step (f := fun _ => some (0, 0, false)) (fun k => by simp only [spec_OpenAfterRounds.j0]; exact if_pos trivial) (Ev.now _)
  unfold spec_OpenAfterRounds.f
  refine Ev.bind (roTold_ev h a ls hs) ?_
  cases ht : Rd.told h a ls with
  | false => exact Ev.congr (f := fun k => spec_OpenAfterRounds.j0 k a ls b true) (fun k => by rw [if_ff]) out
  | true =>
    have hfl := (Rd.told_parts ht).2.1
    have hfs : ∀ x ∈ ls.flatten, 1 ≤ x ∧ x ≤ 1000 := fun x hx => by have := Rd.told_floor ht x hx; omega
    cases hi : Rd.inn b 0 a with
    | false => exact Ev.congr (f := fun k => spec_OpenAfterRounds.j0 k a ls b true) (fun k => by rw [if_pos rfl, rnn_some, hi, Option.bind_some]; rfl) out
    | true =>
      refine Ev.congr (f := fun k => spec_OpenAfterRounds.j0 k a ls b false) (fun k => by rw [if_pos rfl, rnn_some, hi, Option.bind_some]; rfl) (Ev.step (f := fun k => spec_OpenAfterRounds.l0 k b 0 a ls (ls.length : Int) ((0 : Nat) : Int)) (fun k => by simp only [spec_OpenAfterRounds.j0]; rw [if_ff]; rfl) ?_)
      have h1 := openR_go b ls hl hs.2 hfs ls.length 0 0 a (by omega)
      rw [List.drop_zero] at h1
      exact h1

theorem FnExactOpenAfterRounds : laws_FnExactOpenAfterRounds.Pure := by
  intro a0 a1 l2 a3 hm
  apply Ev.rounds
  unfold laws_FnExactOpenAfterRounds.f
  obtain ⟨t, ht, hsm⟩ := szSS_both l2 hm.1 hm.2
  refine Ev.bind ht ?_
  by_cases hn : t < 0
  · exact Ev.congr (f := fun _ => some true) (fun k => if_pos hn) (Ev.now _)
  · have hs := hsm hn
    have hto : ∀ b, Ev (fun k => laws_toIntSS.f k l2 b) l2 := fun b => Ev.now _
    have hsp : Ev (fun k => spec_OpenAfterRounds.f k a0 a1 l2 a3) (Rd.openRes a0 a1 l2 a3) := spec_ev a0 a1 a3 l2 hs
    have him : Ev (fun k => impl_OpenAfterRounds.f k a0 a1 l2 a3) (Rd.openRes a0 a1 l2 a3) := Ev.now _
    have hx : Ev (fun k => laws_intactIntSS.f k l2 l2) true := Ev.now _
    refine Ev.congr (f := _) (fun k => if_neg hn) ?_
    refine Ev.bind (hto false) ?_
    refine Ev.bind hsp ?_
    refine Ev.bind (hto false) ?_
    refine Ev.bind him ?_
    refine Ev.congr (fun k => if_pos rfl) ?_
    refine Ev.congr (fun k => if_pos rfl) ?_
    refine Ev.congr (fun k => if_neg (by simp)) ?_
    refine Ev.bind (hto false) ?_
    refine Ev.bind hx ?_
    refine Ev.congr (fun k => if_pos rfl) ?_
    refine Ev.bind (hto true) ?_
    refine Ev.bind him ?_
    refine Ev.congr (fun k => if_pos rfl) ?_
    refine Ev.congr (fun k => if_pos rfl) ?_
    refine Ev.congr (fun k => if_neg (by simp)) ?_
    exact Ev.now _

end Go.Proofs.Ytnolocmcjcjjcaa.Pure
