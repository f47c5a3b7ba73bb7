/- The program's ParsePrices answers as the reference's does, for every text; no conditions. -/
import Derived.Test.YtbgmhdlmhncdcaaDoorQFnExactParsePricesx5
namespace Go.Proofs.YtbgmhdlmhncdcaaDoor.Pure
open Go.RowKit Go.Proofs.YtbgmhdlmhncdcaaDoor.QFnExactParsePrices Go.Proofs.YtbgmhdlmhncdcaaDoorW.PrintWords Go.Proofs.YtbgmhdlmhncdcaaDoorW.PrintLast
set_option linter.unusedVariables false

theorem wrap64_small {x : Int} (h0 : -9223372036854775808 ≤ x) (h1 : x < 9223372036854775808) : wrap64 x = x := by
  unfold wrap64; omega
theorem l1In_some (a b c : Int) : spec_l1In.f a b c = some (decide (b ≤ a ∧ a ≤ c)) := by
  unfold spec_l1In.f
  by_cases h : a ≥ b
  · rw [if_pos h]; congr 1; rw [Bool.eq_iff_iff]; simp; omega
  · rw [if_neg h]; congr 1; symm; rw [decide_eq_false_iff_not]; omega
theorem l1In_yes {a b c : Int} (h : b ≤ a ∧ a ≤ c) : spec_l1In.f a b c = some true := by rw [l1In_some, decide_eq_true h]
theorem l1In_no {a b c : Int} (h : ¬ (b ≤ a ∧ a ≤ c)) : spec_l1In.f a b c = some false := by rw [l1In_some, decide_eq_false h]
theorem if_ff {α : Type} (x y : α) : (if false = true then x else y) = y := if_neg (by decide)

theorem inn_dec (a b c : Int) : Hand.inn a b c = decide (b ≤ a ∧ a ≤ c) := by unfold Hand.inn; rw [Bool.decide_and]
theorem inn_some (a b c : Int) : spec_l1In.f a b c = some (Hand.inn a b c) := by rw [l1In_some, inn_dec]
theorem rd_nat (l : List Int) (i : Nat) (h : i < l.length) : rd l (i : Int) = l[i] := by unfold rd; simp [h]

theorem within_some (a b c : Int) : impl_within.f a b c = some (decide (b ≤ a ∧ a ≤ c)) := by
  unfold impl_within.f
  by_cases h : a ≥ b
  · rw [if_pos h]; congr 1; rw [Bool.eq_iff_iff]; simp; omega
  · rw [if_neg h]; congr 1; symm; rw [decide_eq_false_iff_not]; omega
theorem within_yes {a b c : Int} (h : b ≤ a ∧ a ≤ c) : impl_within.f a b c = some true := by rw [within_some, decide_eq_true h]
theorem within_no {a b c : Int} (h : ¬ (b ≤ a ∧ a ≤ c)) : impl_within.f a b c = some false := by rw [within_some, decide_eq_false h]

theorem l1All_go (l : List Int) (a b : Int) (hl : l.length < 1000000000000) (d : Nat) : ∀ (i : Nat), i + d = l.length → Ev (fun k => spec_l1All.l0 k a b l (l.length : Int) (i : Int)) (!((l.drop i).any fun x => !(Hand.inn x a b))) := by
  induction d with
  | zero =>
    intro i hi
    refine Ev.step (f := fun _ => some true) (fun k => ?_) ?_
    · simp only [spec_l1All.l0]; rw [if_neg (by omega)]
    · rw [List.drop_eq_nil_of_le (by omega)]; exact Ev.now _
  | succ d ih =>
    intro i hi
    have hlt : i < l.length := by omega
    have hw : wrap64 ((i : Int) + 1) = ((i + 1 : Nat) : Int) := wrap64_small (by omega) (by omega)
    rw [List.drop_eq_getElem_cons hlt, List.any_cons]
    cases hc : Hand.inn l[i] a b with
    | true =>
      refine Ev.step (f := fun k => spec_l1All.l0 k a b l (l.length : Int) ((i + 1 : Nat) : Int)) (fun k => ?_) (by rw [Bool.not_true, Bool.false_or]; exact ih (i + 1) (by omega))
      simp only [spec_l1All.l0]
      rw [if_pos (by omega), if_pos (by omega), if_pos (by omega), rd_nat l i hlt, inn_some, hc, Option.bind_some, if_pos rfl, hw]
    | false =>
      refine Ev.step (f := fun _ => some false) (fun k => ?_) (by rw [Bool.not_false, Bool.true_or]; exact Ev.now _)
      simp only [spec_l1All.l0]
      rw [if_pos (by omega), if_pos (by omega), if_pos (by omega), rd_nat l i hlt, inn_some, hc, Option.bind_some, if_ff]

theorem bt_data (s : ByteArray) (i : Nat) (h : i < s.data.toList.length) : bt s (i : Int) = ((s.data.toList[i]).toNat : Int) := by
  have h2 : i < s.size := by rw [Go.Lib.size_eq]; exact h
  unfold bt
  rw [dif_pos (by rw [Int.toNat_natCast]; exact h2)]
  congr 2
theorem l1Read_go (s : ByteArray) (hs : s.data.toList.length ≤ 6) (d : Nat) : ∀ i : Nat, i + d = s.data.toList.length → (s.data.toList.take i).all Hand.isDig = true →
    Ev (fun k => spec_l1Read.l0 k s (Hand.val (s.data.toList.take i) : Int) (i : Int)) (if s.data.toList.all Hand.isDig = true then (Hand.val s.data.toList : Int) else -1) := by
  induction d with
  | zero =>
    intro i hi ha
    have e : s.data.toList.take i = s.data.toList := List.take_of_length_le (by omega)
    rw [e] at ha ⊢
    rw [if_pos ha]
    refine Ev.step (f := fun _ => some (Hand.val s.data.toList : Int)) (fun k => ?_) (Ev.now _)
    simp only [spec_l1Read.l0]
    rw [if_neg (by rw [Go.Lib.size_eq]; omega)]
  | succ d ih =>
    intro i hi ha
    have hlt : i < s.data.toList.length := by omega
    have hb := bt_data s i hlt
    have hw : wrap64 ((i : Int) + 1) = ((i + 1 : Nat) : Int) := wrap64_small (by omega) (by omega)
    have hsz : (i : Int) < (s.size : Int) := by rw [Go.Lib.size_eq]; omega
    have hdig : s.data.toList.all Hand.isDig = true → 48 ≤ (s.data.toList[i]).toNat ∧ (s.data.toList[i]).toNat ≤ 57 := fun h => (Hand.isDig_iff _).1 (List.all_eq_true.1 h _ (List.getElem_mem hlt))
    have hl255 := (s.data.toList[i]).toNat_lt
    by_cases c1 : bt s (i : Int) < 48
    · refine Ev.step (f := fun _ => some (-1 : Int)) (fun k => ?_) ?_
      · simp only [spec_l1Read.l0]; rw [if_pos hsz, if_pos (by omega), if_pos c1]
      · rw [if_neg (fun h => by have := hdig h; omega)]; exact Ev.now _
    · by_cases c2 : bt s (i : Int) > 57
      · refine Ev.step (f := fun _ => some (-1 : Int)) (fun k => ?_) ?_
        · simp only [spec_l1Read.l0]; rw [if_pos hsz, if_pos (by omega), if_neg c1, if_pos c2]
        · rw [if_neg (fun h => by have := hdig h; omega)]; exact Ev.now _
      · have hd1 : Hand.isDig (s.data.toList[i]) = true := (Hand.isDig_iff _).2 (by omega)
        have ht : s.data.toList.take (i + 1) = s.data.toList.take i ++ [s.data.toList[i]] := List.take_succ_eq_append_getElem hlt
        have hv := Hand.val_lt _ ha
        have hp : 10 ^ (s.data.toList.take i).length ≤ 10 ^ 6 := Nat.pow_le_pow_right (by omega) (by rw [List.length_take]; omega)
        have h1 := ih (i + 1) (by omega) (by rw [ht, List.all_append, ha, List.all_cons, hd1]; rfl)
        rw [ht, Hand.val_snoc] at h1
        have hw1 : wrap64 (10 * (Hand.val (s.data.toList.take i) : Int)) = 10 * (Hand.val (s.data.toList.take i) : Int) := wrap64_small (by omega) (by omega)
        have hw2 : wrap64 (10 * (Hand.val (s.data.toList.take i) : Int) + (bt s (i : Int) - 48) % 256) = ((Hand.val (s.data.toList.take i) * 10 + ((s.data.toList[i]).toNat - 48) : Nat) : Int) := by rw [wrap64_small (by omega) (by omega)]; omega
        refine Ev.step (f := fun k => spec_l1Read.l0 k s ((Hand.val (s.data.toList.take i) * 10 + ((s.data.toList[i]).toNat - 48) : Nat) : Int) ((i + 1 : Nat) : Int)) (fun k => ?_) h1
        simp only [spec_l1Read.l0]
        rw [if_pos hsz, if_pos (by omega), if_neg c1, if_neg c2, hw1, hw2, hw]
theorem l1Read_ev (s : ByteArray) : Ev (fun k => spec_l1Read.f k s) (Hand.readNum s.data.toList) := by
  have hsz := Go.Lib.size_eq s
  by_cases h : 1 ≤ s.data.toList.length ∧ s.data.toList.length ≤ 6
  · have hg := l1Read_go s h.2 s.data.toList.length 0 (by omega) rfl
    rw [List.take_zero] at hg
    have hne : s.data.toList ≠ [] := fun e => by rw [e] at h; simp at h
    obtain ⟨c, r, hcr⟩ := List.exists_cons_of_ne_nil hne
    have hb : bt s 0 = (c.toNat : Int) := by
      have := bt_data s 0 (by omega)
      rw [show ((0 : Nat) : Int) = 0 from rfl] at this
      rw [this]
      congr 2
      simp [hcr]
    have hcan : Hand.readNum s.data.toList = if ((c.toNat = 48) ∧ r ≠ []) then -1 else (if s.data.toList.all Hand.isDig = true then (Hand.val s.data.toList : Int) else -1) := by
      have hA : Hand.canon s.data.toList = (s.data.toList.all Hand.isDig && (r.isEmpty || decide (c.toNat ≠ 48))) := by rw [hcr]; rfl
      unfold Hand.readNum
      rw [hA]
      have h6 := h.2
      generalize s.data.toList.all Hand.isDig = D
      generalize Hand.val s.data.toList = V
      generalize s.data.toList.length = n at h6
      by_cases c1 : c.toNat = 48 <;> by_cases c2 : r = [] <;> cases D <;> simp [c1, c2, h6]
    rw [hcan]
    have hrl : r ≠ [] ↔ (s.size : Int) > 1 := by
      rw [hsz, hcr, List.length_cons]
      cases r with
      | nil => simp
      | cons x y => simp; omega
    by_cases c1 : bt s 0 = 48
    · by_cases c2 : (s.size : Int) > 1
      · rw [if_pos ⟨by omega, hrl.2 c2⟩]
        refine Ev.congr (f := fun k => spec_l1Read.j0 k s true) (fun k => ?_) (Ev.step (f := fun _ => some (-1 : Int)) (fun k => ?_) (Ev.now _))
        · unfold spec_l1Read.f
          rw [l1In_yes (by omega), Option.bind_some, if_pos rfl, if_pos (by omega), if_pos c1, decide_eq_true c2]
        · simp only [spec_l1Read.j0]; rw [if_pos trivial]
      · rw [if_neg (fun h2 => c2 (hrl.1 h2.2))]
        refine Ev.congr (f := fun k => spec_l1Read.j0 k s false) (fun k => ?_) (Ev.step (f := fun k => spec_l1Read.l0 k s 0 0) (fun k => ?_) hg)
        · unfold spec_l1Read.f
          rw [l1In_yes (by omega), Option.bind_some, if_pos rfl, if_pos (by omega), if_pos c1, decide_eq_false c2]
        · simp only [spec_l1Read.j0]; rw [if_neg (by simp)]
    · rw [if_neg (fun h2 => c1 (by omega))]
      refine Ev.congr (f := fun k => spec_l1Read.j0 k s false) (fun k => ?_) (Ev.step (f := fun k => spec_l1Read.l0 k s 0 0) (fun k => ?_) hg)
      · unfold spec_l1Read.f
        rw [l1In_yes (by omega), Option.bind_some, if_pos rfl, if_pos (by omega), if_neg c1]
      · simp only [spec_l1Read.j0]; rw [if_neg (by simp)]
  · have hr : Hand.readNum s.data.toList = -1 := by
      unfold Hand.readNum
      rw [if_neg]
      rintro ⟨h1, h2⟩
      refine h ⟨?_, h2⟩
      cases e : s.data.toList with
      | nil => rw [e] at h1; cases h1
      | cons c r => simp
    rw [hr]
    refine Ev.congr (f := fun k => spec_l1Read.j0 k s true) (fun k => ?_) (Ev.step (f := fun _ => some (-1 : Int)) (fun k => ?_) (Ev.now _))
    · unfold spec_l1Read.f
      rw [l1In_no (by omega), Option.bind_some, if_ff]
    · simp only [spec_l1Read.j0]; rw [if_pos trivial]
theorem l1Split_go (s : ByteArray) (c : UInt8) (hs : s.data.toList.length ≤ 1000000) (d : Nat) : ∀ (i fr : Nat) (out : List ByteArray), i + d = s.data.toList.length → fr ≤ i → out.length ≤ i → c ∉ (s.data.toList.drop fr).take (i - fr) →
    ∃ ws : List ByteArray, ws.map (·.data.toList) = Hand.cutAt c (s.data.toList.drop fr) ∧ Ev (fun k => spec_l1Split.l0 k s (c.toNat : Int) out (fr : Int) (i : Int)) (out ++ ws) := by
  have hsz := Go.Lib.size_eq s
  induction d with
  | zero =>
    intro i fr out hi hf ho hn
    have e : (s.data.toList.drop fr).take (i - fr) = s.data.toList.drop fr := List.take_of_length_le (by rw [List.length_drop]; omega)
    rw [e] at hn
    refine ⟨[s.extract fr s.size], ?_, Ev.step (f := fun _ => some (out ++ [s.extract fr s.size])) (fun k => ?_) (Ev.now _)⟩
    · rw [List.map_cons, List.map_nil, Go.Lib.extract_to_end, Hand.cutAt_last c _ hn]
    · simp only [spec_l1Split.l0]
      rw [if_neg (by omega), if_pos (by omega), if_pos (by omega), if_pos (by omega), Int.toNat_natCast]
  | succ d ih =>
    intro i fr out hi hf ho hn
    have hlt : i < s.data.toList.length := by omega
    have hb := bt_data s i hlt
    have hw : wrap64 ((i : Int) + 1) = ((i + 1 : Nat) : Int) := wrap64_small (by omega) (by omega)
    by_cases hc : s.data.toList[i] = c
    · obtain ⟨ws, h1, h2⟩ := ih (i + 1) (i + 1) (out ++ [s.extract fr i]) (by omega) (Nat.le_refl _) (by rw [List.length_append, List.length_singleton]; omega) (by rw [Nat.sub_self, List.take_zero]; simp)
      refine ⟨s.extract fr i :: ws, ?_, Ev.step (f := fun k => spec_l1Split.l0 k s (c.toNat : Int) (out ++ [s.extract fr i]) ((i + 1 : Nat) : Int) ((i + 1 : Nat) : Int)) (fun k => ?_) ?_⟩
      · rw [List.map_cons, h1, Go.Lib.extract_data]
        have e : s.data.toList.drop fr = (s.data.toList.drop fr).take (i - fr) ++ c :: s.data.toList.drop (i + 1) := by
          have h3 : (s.data.toList.drop fr).drop (i - fr) = c :: s.data.toList.drop (i + 1) := by
            rw [List.drop_drop, show fr + (i - fr) = i by omega, List.drop_eq_getElem_cons hlt, hc]
          rw [← h3, List.take_append_drop]
        have h4 := Hand.cutAt_word c ((s.data.toList.drop fr).take (i - fr)) (s.data.toList.drop (i + 1)) hn
        rw [← e] at h4
        exact h4.symm
      · simp only [spec_l1Split.l0]
        rw [if_pos (by omega), if_pos (by omega), if_pos (by rw [hb, hc]), if_pos (by omega), if_pos (by omega), if_pos (by omega), if_pos (by omega), Int.toNat_natCast, Int.toNat_natCast, hw]
      · rw [List.append_assoc, List.singleton_append] at h2
        exact h2
    · obtain ⟨ws, h1, h2⟩ := ih (i + 1) fr out (by omega) (by omega) (by omega) (by
        rw [show i + 1 - fr = (i - fr) + 1 by omega, List.take_succ_eq_append_getElem (by rw [List.length_drop]; omega), List.mem_append, List.mem_singleton, List.getElem_drop]
        rintro (h | h)
        · exact hn h
        · refine hc ?_
          have e : fr + (i - fr) = i := by omega
          simp only [e] at h
          exact h.symm)
      refine ⟨ws, h1, Ev.step (f := fun k => spec_l1Split.l0 k s (c.toNat : Int) out (fr : Int) ((i + 1 : Nat) : Int)) (fun k => ?_) h2⟩
      simp only [spec_l1Split.l0]
      rw [if_pos (by omega), if_pos (by omega), if_neg (by rw [hb]; intro e; exact hc (UInt8.toNat_inj.1 (by omega))), hw]
theorem l1Split_ev (s : ByteArray) (c : UInt8) (hs : s.size ≤ 1000000) : ∃ ws : List ByteArray, ws.map (·.data.toList) = Hand.cutAt c s.data.toList ∧ Ev (fun k => spec_l1Split.f k s (c.toNat : Int)) ws := by
  have hsz := Go.Lib.size_eq s
  obtain ⟨ws, h1, h2⟩ := l1Split_go s c (by omega) s.data.toList.length 0 0 [] (by omega) (Nat.le_refl _) (Nat.zero_le _) (by simp)
  rw [List.drop_zero] at h1
  rw [List.nil_append] at h2
  exact ⟨ws, h1, h2⟩
theorem Ev.same {α : Type} {g : Nat → Option α} {a b : α} (h1 : Ev g a) (h2 : Ev g b) : a = b := by
  obtain ⟨K, h1⟩ := h1
  obtain ⟨K', h2⟩ := h2
  exact Option.some.inj ((h1 (max K K') (Nat.le_max_left ..)).symm.trans (h2 (max K K') (Nat.le_max_right ..)))

theorem csGood_ev (a b c : Int) : Ev (fun k => spec_csGood.f k a b c) (Hand.inn a 0 1000 && (Hand.inn b 0 1000 && Hand.inn c 0 1000)) := by
  have h := l1All_go [a, b, c] 0 1000 (by simp) 3 0 rfl
  have e : (!(([a, b, c].drop 0).any fun x => !(Hand.inn x 0 1000))) = (Hand.inn a 0 1000 && (Hand.inn b 0 1000 && Hand.inn c 0 1000)) := by
    simp only [List.drop_zero, List.any_cons, List.any_nil]
    cases Hand.inn a 0 1000 <;> cases Hand.inn b 0 1000 <;> cases Hand.inn c 0 1000 <;> rfl
  rw [e] at h
  unfold spec_csGood.f
  exact Ev.bind (f := fun _ t => some t) (Ev.congr (fun k => rfl) h) (Ev.now _)
theorem arePrices_some (a b c : Int) : impl_ArePrices.f a b c = some (Hand.inn a 0 1000 && (Hand.inn b 0 1000 && Hand.inn c 0 1000)) := by
  unfold impl_ArePrices.f impl_isPrice.f
  rw [within_some, within_some, within_some, ← inn_dec, ← inn_dec, ← inn_dec]
  cases Hand.inn a 0 1000 <;> cases Hand.inn b 0 1000 <;> cases Hand.inn c 0 1000 <;> rfl
/-- The prices of a text that is cut at its signs. -/
def pr : List (List UInt8) → Int × Int × Int × Bool
  | [x, y, z] => if (Hand.inn (Hand.readNum x) 0 1000 && (Hand.inn (Hand.readNum y) 0 1000 && Hand.inn (Hand.readNum z) 0 1000)) = true then (Hand.readNum x, Hand.readNum y, Hand.readNum z, true) else (0, 0, 0, false)
  | _ => (0, 0, 0, false)
theorem inn_word {x : List UInt8} (h : Hand.inn (Hand.readNum x) 0 1000 = true) : Hand.wordNum x = some (Hand.readNum x) ∧ x.length ≤ 4 := by
  rw [inn_dec, decide_eq_true_eq] at h
  have h1 := (Hand.readNum_of (l := x) rfl h.1).1
  obtain ⟨h2, _, _⟩ := Hand.wordNum_nat _ _ h1 h.1
  refine ⟨h1, ?_⟩
  have h3 := congrArg List.length h2
  rw [Go.Lib.decDigits_length] at h3
  have := Hand.ndig_le (Hand.readNum x).toNat 4 (by omega) (by omega)
  omega
theorem word_inn {x : List UInt8} {v : Int} (h : Hand.wordNum x = some v) (h2 : Hand.inn v 0 1000 = true) : Hand.readNum x = v := by
  rw [inn_dec, decide_eq_true_eq] at h2
  exact Hand.readNum_to h h2.1 (by omega)
theorem readNumbers_some (s : ByteArray) (hs : s.size ≤ 1000000) (c : UInt8) : impl_readNumbers.f s (⟨#[c]⟩ : ByteArray) = some (Hand.rnRes (Hand.cutAt c s.data.toList)) := by
  unfold impl_readNumbers.f
  rw [if_pos ⟨hs, rfl⟩]
  rfl
theorem rn_cases (xs : List (List UInt8)) : (Hand.rnRes xs = ([], false)) ∨ (Hand.rnRes xs = (Hand.rnVals xs, true) ∧ ∀ x ∈ xs, ∃ v, Hand.wordNum x = some v) := by
  by_cases h : xs.all (fun x => (Hand.wordNum x).isSome) = true
  · refine .inr ⟨by unfold Hand.rnRes; rw [if_pos h], fun x hx => Option.isSome_iff_exists.1 (List.all_eq_true.1 h x hx)⟩
  · exact .inl (by unfold Hand.rnRes; rw [if_neg h])
theorem pr3 (x y z : List UInt8) : pr [x, y, z] = if (Hand.inn (Hand.readNum x) 0 1000 && (Hand.inn (Hand.readNum y) 0 1000 && Hand.inn (Hand.readNum z) 0 1000)) = true then (Hand.readNum x, Hand.readNum y, Hand.readNum z, true) else (0, 0, 0, false) := rfl
/-- What the program does with the numbers of a text. -/
def pick3 (t : List Int × Bool) : Option (Int × Int × Int × Bool) := (if t.2 = true then (if (t.1.length : Int) = 3 then (if 0 < (t.1.length : Int) then (if 1 < (t.1.length : Int) then (if 2 < (t.1.length : Int) then ((impl_ArePrices.f (rd t.1 0) (rd t.1 1) (rd t.1 2)).bind fun t148 => (if t148 = true then (some (rd t.1 0, rd t.1 1, rd t.1 2, true)) else (some (0, 0, 0, false)))) else (none)) else (none)) else (none)) else (some (0, 0, 0, false))) else (some (0, 0, 0, false)))
theorem pick3_yes (a b c : Int) : pick3 ([a, b, c], true) = if (Hand.inn a 0 1000 && (Hand.inn b 0 1000 && Hand.inn c 0 1000)) = true then some (a, b, c, true) else some (0, 0, 0, false) := by
  have e : pick3 ([a, b, c], true) = (impl_ArePrices.f a b c).bind fun t148 => (if t148 = true then (some (a, b, c, true)) else (some (0, 0, 0, false))) := rfl
  rw [e, arePrices_some, Option.bind_some]
theorem impl_pr (s : ByteArray) (hs : s.size ≤ 1000000) : impl_ParsePrices.f s = some (pr (Hand.cutAt 47 s.data.toList)) := by
  unfold impl_ParsePrices.f
  rw [readNumbers_some s hs 47, Option.bind_some]
  generalize Hand.cutAt 47 s.data.toList = xs
  show pick3 (Hand.rnRes xs) = _
  by_cases h3 : ∃ x y z, xs = [x, y, z]
  · obtain ⟨x, y, z, rfl⟩ := h3
    rw [pr3]
    cases hg : (Hand.inn (Hand.readNum x) 0 1000 && (Hand.inn (Hand.readNum y) 0 1000 && Hand.inn (Hand.readNum z) 0 1000)) with
    | true =>
      have hg2 := hg
      simp only [Bool.and_eq_true] at hg2
      have hx := (inn_word hg2.1).1
      have hy := (inn_word hg2.2.1).1
      have hz := (inn_word hg2.2.2).1
      have hr : Hand.rnRes [x, y, z] = ([Hand.readNum x, Hand.readNum y, Hand.readNum z], true) := by
        unfold Hand.rnRes Hand.rnVals
        simp [hx, hy, hz]
      rw [hr, pick3_yes, hg, if_pos rfl, if_pos rfl]
    | false =>
      rw [if_ff]
      rcases rn_cases [x, y, z] with hr | ⟨hr, hw⟩
      · rw [hr]; rfl
      · obtain ⟨a, ha⟩ := hw x (by simp)
        obtain ⟨b, hb⟩ := hw y (by simp)
        obtain ⟨c, hc⟩ := hw z (by simp)
        have hv : Hand.rnVals [x, y, z] = [a, b, c] := by unfold Hand.rnVals; simp [ha, hb, hc]
        rw [hr, hv, pick3_yes, if_neg]
        intro h
        have h2 := h
        simp only [Bool.and_eq_true] at h2
        rw [word_inn ha h2.1, word_inn hb h2.2.1, word_inn hc h2.2.2, h] at hg
        cases hg
  · have hp : pr xs = (0, 0, 0, false) := by
      unfold pr
      split
      · rename_i x y z; exact absurd ⟨x, y, z, rfl⟩ h3
      · rfl
    rw [hp]
    rcases rn_cases xs with hr | ⟨hr, _⟩
    · rw [hr]; rfl
    · rw [hr]
      unfold pick3
      rw [if_pos rfl, if_neg]
      intro h
      have h4 : xs.length = 3 := by have := Hand.rnVals_len xs; simp only [] at h; omega
      match xs, h4 with
      | [x, y, z], _ => exact h3 ⟨x, y, z, rfl⟩
theorem spec_pr (s : ByteArray) (hs : s.size ≤ 1000000) : Ev (fun k => spec_ParsePrices.f k s) (pr (Hand.cutAt 47 s.data.toList)) := by
  have hsz := Go.Lib.size_eq s
  obtain ⟨ws, hws, hsp⟩ := l1Split_ev s 47 hs
  have h47 : ((47 : UInt8).toNat : Int) = 47 := rfl
  rw [h47] at hsp
  have hlen : ws.length = (Hand.cutAt 47 s.data.toList).length := by rw [← hws, List.length_map]
  have hjoin := Hand.cutAt_join 47 s.data.toList
  have hno : Ev (fun k => spec_csParse.j0 k ws true) (0, 0, 0, false) := Ev.step (f := fun _ => some (0, 0, 0, false)) (fun k => by simp only [spec_csParse.j0]; rw [if_pos trivial]) (Ev.now _)
  refine Ev.congr (f := fun k => (spec_csParse.f k s).bind fun t => some (t.1, t.2.1, t.2.2.1, t.2.2.2)) (fun k => rfl) (Ev.bind (a := pr (Hand.cutAt 47 s.data.toList)) (f := fun _ t => some (t.1, t.2.1, t.2.2.1, t.2.2.2)) ?_ (Ev.now _))
  unfold spec_csParse.f
  refine Ev.bind hsp ?_
  generalize Hand.cutAt 47 s.data.toList = xs at *
  by_cases h14 : (s.size : Int) > 14
  · refine Ev.congr (fun k => if_pos h14) ?_
    have hp : pr xs = (0, 0, 0, false) := by
      unfold pr
      split
      · rename_i x y z
        rw [if_neg]
        intro h
        simp only [Bool.and_eq_true] at h
        have h1 := (inn_word h.1).2
        have h2 := (inn_word h.2.1).2
        have h3 := (inn_word h.2.2).2
        have h4 := congrArg List.length hjoin
        rw [Go.Lib.join_cons] at h4
        unfold Go.Lib.joinTail at h4
        simp at h4
        rw [hsz] at h14
        simp at h14
        omega
      · rfl
    rw [hp]
    exact hno
  · refine Ev.congr (fun k => if_neg h14) ?_
    by_cases h3 : ∃ x y z, xs = [x, y, z]
    · obtain ⟨x, y, z, rfl⟩ := h3
      match ws, hws with
      | [u, v, w], hws =>
        simp only [List.map_cons, List.map_nil, List.cons.injEq, and_true] at hws
        obtain ⟨hu, hv, hw⟩ := hws
        have b1 : ((([u, v, w] : List ByteArray).length : Int) != 3) = false := rfl
        rw [b1]
        have l0 := l1Read_ev u
        have l1 := l1Read_ev v
        have l2 := l1Read_ev w
        rw [hu] at l0
        rw [hv] at l1
        rw [hw] at l2
        have hg := csGood_ev (Hand.readNum x) (Hand.readNum y) (Hand.readNum z)
        refine Ev.step (f := fun k => (spec_l1Read.f k u).bind fun t120 => ((spec_l1Read.f k v).bind fun t122 => ((spec_l1Read.f k w).bind fun t124 => ((spec_csGood.f k t120 t122 t124).bind fun t126 => (if t126 = true then (some (t120, t122, t124, true)) else (some (0, 0, 0, false))))))) (fun k => ?_) ?_
        · simp only [spec_csParse.j0]
          rw [if_ff, if_pos (by simp)]
          have e0 : rdOf ByteArray.empty [u, v, w] 0 = u := rfl
          have e1 : rdOf ByteArray.empty [u, v, w] 1 = v := rfl
          have e2 : rdOf ByteArray.empty [u, v, w] 2 = w := rfl
          have i1 : (1 : Int) < (([u, v, w] : List ByteArray).length : Int) := by simp
          have i2 : (2 : Int) < (([u, v, w] : List ByteArray).length : Int) := by simp
          simp only [e0, e1, e2, if_pos i1, if_pos i2]
        · refine Ev.bind l0 (Ev.bind l1 (Ev.bind l2 (Ev.bind hg ?_)))
          rw [pr3]
          generalize (Hand.inn (Hand.readNum x) 0 1000 && (Hand.inn (Hand.readNum y) 0 1000 && Hand.inn (Hand.readNum z) 0 1000)) = g
          cases g with
          | true => exact Ev.now _
          | false => exact Ev.now _
    · have hp : pr xs = (0, 0, 0, false) := by
        unfold pr
        split
        · rename_i x y z; exact absurd ⟨x, y, z, rfl⟩ h3
        · rfl
      have hne : ((ws.length : Int) != 3) = true := by
        rw [bne_iff_ne]
        intro h
        have h4 : xs.length = 3 := by omega
        match xs, h4 with
        | [x, y, z], _ => exact h3 ⟨x, y, z, rfl⟩
      rw [hp, hne]
      exact hno
theorem FnExactParsePrices : ∀ (a0 : ByteArray), ∃ k, laws_FnExactParsePrices.f k a0 = some true := by
  intro a0
  apply Ev.rounds
  unfold laws_FnExactParsePrices.f
  by_cases h : (a0.size : Int) > 1000000
  · exact Ev.congr (fun k => if_pos h) (Ev.now _)
  · refine Ev.congr (fun k => if_neg h) ?_
    refine Ev.bind (spec_pr a0 (by omega)) ?_
    refine Ev.congr (f := fun _ => some true) (fun k => ?_) (Ev.now _)
    rw [impl_pr a0 (by omega), Option.bind_some]
    unfold laws_eqPrices.f
    rw [if_pos rfl, if_pos rfl, if_pos rfl, Option.bind_some, if_pos rfl, if_neg (by simp)]

end Go.Proofs.YtbgmhdlmhncdcaaDoor.Pure
