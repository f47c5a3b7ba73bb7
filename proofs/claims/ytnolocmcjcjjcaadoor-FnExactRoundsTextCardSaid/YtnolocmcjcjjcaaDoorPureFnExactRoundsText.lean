/- The program's RoundsText answers as the reference's does, and leaves the rows that it is given alone, for every list; no conditions. -/
import Derived.Test.YtnolocmcjcjjcaaDoorQFnExactRoundsTextx
namespace Go.Proofs.YtnolocmcjcjjcaaDoor.Pure
open Go.RowKit Go.Proofs.YtnolocmcjcjjcaaDoor.QFnExactRoundsText Go.Proofs.YtnolocmcjcjjcaaDoorW.PrintWords Go.Proofs.YtnolocmcjcjjcaaDoorW.PrintLast Go.Proofs.YtnolocmcjcjjcaaDoorW.PrintMore
set_option linter.unusedVariables false

theorem wrap64_small {x : Int} (h0 : -9223372036854775808 ≤ x) (h1 : x < 9223372036854775808) : wrap64 x = x := by
  unfold wrap64; omega
theorem l1In_some (a b c : Int) : spec_l1In.f a b c = some (decide (b ≤ a ∧ a ≤ c)) := by
  unfold spec_l1In.f
  by_cases h : a ≥ b
  · rw [if_pos h]; congr 1; rw [Bool.eq_iff_iff]; simp; omega
  · rw [if_neg h]; congr 1; symm; rw [decide_eq_false_iff_not]; omega
theorem l1In_yes {a b c : Int} (h : b ≤ a ∧ a ≤ c) : spec_l1In.f a b c = some true := by rw [l1In_some, decide_eq_true h]
theorem l1In_no {a b c : Int} (h : ¬ (b ≤ a ∧ a ≤ c)) : spec_l1In.f a b c = some false := by rw [l1In_some, decide_eq_false h]
theorem if_ff {α : Type} (x y : α) : (if false = true then x else y) = y := if_neg (by decide)

theorem rnn_some (a b c : Int) : spec_l1In.f a b c = some (Rd.inn a b c) := by rw [l1In_some]; unfold Rd.inn; rw [Bool.decide_and]
theorem rdI_nat (l : List Int) (i : Nat) (h : i < l.length) : rd l (i : Int) = l[i] := by unfold rd; simp [h]
theorem l1Rising_go (a : Int) (l : List Int) (hl : l.length < 1000000000000) (d : Nat) : ∀ (i : Nat), i + d = l.length → Ev (fun k => spec_l1Rising.l0 k l 1 a l (l.length : Int) (i : Int)) ((List.range' i d).all (Rd.okAt a l)) := by
  induction d with
  | zero =>
    intro i hi
    refine Ev.step (f := fun _ => some true) (fun k => ?_) (Ev.now _)
    simp only [spec_l1Rising.l0]; rw [if_neg (by omega)]
  | succ d ih =>
    intro i hi
    have hlt : i < l.length := by omega
    have hw : wrap64 ((i : Int) + 1) = ((i + 1 : Nat) : Int) := wrap64_small (by omega) (by omega)
    have hg : l.getD i 0 = l[i] := Rd.getD_at l i hlt
    rw [show List.range' i (d + 1) = i :: List.range' (i + 1) d from rfl, List.all_cons]
    cases hc : Rd.inn l[i] 1 a with
    | false =>
      rw [show Rd.okAt a l i = false by unfold Rd.okAt; rw [hg, hc]; rfl, Bool.false_and]
      refine Ev.step (f := fun _ => some false) (fun k => ?_) (Ev.now _)
      simp only [spec_l1Rising.l0]
      rw [if_pos (by omega), if_pos (by omega), if_pos (by omega), rdI_nat l i hlt, rnn_some, hc, Option.bind_some, if_ff]
    | true =>
      by_cases h0 : i = 0
      · rw [show Rd.okAt a l i = true by unfold Rd.okAt; rw [hg, hc, decide_eq_true h0]; rfl, Bool.true_and]
        refine Ev.step (f := fun k => spec_l1Rising.l0 k l 1 a l (l.length : Int) ((i + 1 : Nat) : Int)) (fun k => ?_) (ih (i + 1) (by omega))
        simp only [spec_l1Rising.l0]
        rw [if_pos (by omega), if_pos (by omega), if_pos (by omega), rdI_nat l i hlt, rnn_some, hc, Option.bind_some, if_pos rfl, if_neg (by omega), hw]
      · have hm : wrap64 ((i : Int) - 1) = ((i - 1 : Nat) : Int) := (wrap64_small (by omega) (by omega)).trans (by omega)
        have hg2 : l.getD (i - 1) 0 = l[i - 1] := Rd.getD_at l (i - 1) (by omega)
        by_cases h1 : l[i - 1] ≥ l[i]
        · rw [show Rd.okAt a l i = false by unfold Rd.okAt; rw [hg, hg2, hc, decide_eq_false h0, decide_eq_false (by omega)]; rfl, Bool.false_and]
          refine Ev.step (f := fun _ => some false) (fun k => ?_) (Ev.now _)
          simp only [spec_l1Rising.l0]
          rw [if_pos (by omega), if_pos (by omega), if_pos (by omega), rdI_nat l i hlt, rnn_some, hc, Option.bind_some, if_pos rfl, if_pos (by omega), hm, if_pos (by omega), if_pos (by omega), rdI_nat l (i - 1) (by omega), if_pos h1]
        · rw [show Rd.okAt a l i = true by unfold Rd.okAt; rw [hg, hg2, hc, decide_eq_false h0, decide_eq_true (by omega)]; rfl, Bool.true_and]
          refine Ev.step (f := fun k => spec_l1Rising.l0 k l 1 a l (l.length : Int) ((i + 1 : Nat) : Int)) (fun k => ?_) (ih (i + 1) (by omega))
          simp only [spec_l1Rising.l0]
          rw [if_pos (by omega), if_pos (by omega), if_pos (by omega), rdI_nat l i hlt, rnn_some, hc, Option.bind_some, if_pos rfl, if_pos (by omega), hm, if_pos (by omega), if_pos (by omega), rdI_nat l (i - 1) (by omega), if_neg h1, hw]
theorem l1Rising_ev (a : Int) (l : List Int) (hl : l.length < 1000000000000) : Ev (fun k => spec_l1Rising.f k l 1 a) (Rd.rising a l) := l1Rising_go a l hl l.length 0 (by omega)
theorem roTold_go (h a : Int) (ls : List (List Int)) (hl : ls.length < 1000000000000) (hi : ∀ x ∈ ls, x.length < 1000000000000) (d : Nat) : ∀ (i : Nat), i + d = ls.length → Ev (fun k => spec_roTold.l0 k h a ls (ls.length : Int) (i : Int)) (!((ls.drop i).any (Rd.bad h a))) := by
  induction d with
  | zero =>
    intro i hd
    rw [List.drop_eq_nil_of_le (by omega)]
    refine Ev.step (f := fun _ => some true) (fun k => ?_) (Ev.now _)
    simp only [spec_roTold.l0]; rw [if_neg (by omega)]
  | succ d ih =>
    intro i hd
    have hlt : i < ls.length := by omega
    have hw : wrap64 ((i : Int) + 1) = ((i + 1 : Nat) : Int) := wrap64_small (by omega) (by omega)
    rw [List.drop_eq_getElem_cons hlt, List.any_cons]
    by_cases hc : (ls[i].length : Int) > h
    · rw [show Rd.bad h a ls[i] = true by unfold Rd.bad; rw [decide_eq_true hc]; rfl, Bool.true_or]
      refine Ev.step (f := fun _ => some false) (fun k => ?_) (Ev.now _)
      simp only [spec_roTold.l0]
      rw [if_pos (by omega), if_pos (by omega), if_pos (by omega), rd_atSS ls i hlt, if_pos hc]
    · refine Ev.step (f := fun k => (spec_l1Rising.f k ls[i] 1 a).bind fun t => if t = true then spec_roTold.l0 k h a ls (ls.length : Int) ((i + 1 : Nat) : Int) else some false) (fun k => ?_) ?_
      · simp only [spec_roTold.l0]
        rw [if_pos (by omega), if_pos (by omega), if_pos (by omega), rd_atSS ls i hlt, if_neg hc, hw]
      · refine Ev.bind (f := fun k t => if t = true then spec_roTold.l0 k h a ls (ls.length : Int) ((i + 1 : Nat) : Int) else some false) (l1Rising_ev a ls[i] (hi _ (List.getElem_mem hlt))) ?_
        cases hr : Rd.rising a ls[i] with
        | true =>
          rw [show Rd.bad h a ls[i] = false by unfold Rd.bad; rw [decide_eq_false hc, hr]; rfl, Bool.false_or]
          exact Ev.congr (f := _) (fun k => if_pos rfl) (ih (i + 1) (by omega))
        | false =>
          rw [show Rd.bad h a ls[i] = true by unfold Rd.bad; rw [decide_eq_false hc, hr]; rfl, Bool.true_or]
          exact Ev.congr (f := fun _ => some false) (fun k => if_ff _ _) (Ev.now _)
theorem roTold_ev (h a : Int) (ls : List (List Int)) (hs : Rr.Small ls) : Ev (fun k => spec_roTold.f k h a ls) (Rd.told h a ls) := by
  have hl := hs.1
  have hi : ∀ x ∈ ls, x.length < 1000000000000 := fun x hx => by have := hs.2 x hx; omega
  unfold Rd.told
  have out : Ev (fun k => spec_roTold.j0 k h a ls true) false := Ev.step (f := fun _ => some false) (fun k => by simp only [spec_roTold.j0]; exact if_pos trivial) (Ev.now _)
  cases h1 : Rd.inn h 1 10 with
  | false =>
    rw [Bool.false_and]
    exact Ev.congr (f := fun k => spec_roTold.j0 k h a ls true) (fun k => by unfold spec_roTold.f; rw [rnn_some, h1, Option.bind_some, if_ff]) out
  | true =>
    rw [Bool.true_and]
    cases h2 : Rd.inn a 0 1000 with
    | false =>
      rw [Bool.false_and]
      exact Ev.congr (f := fun k => spec_roTold.j0 k h a ls true) (fun k => by unfold spec_roTold.f; rw [rnn_some, h1, Option.bind_some, if_pos rfl, rnn_some, h2, Option.bind_some, if_ff]) out
    | true =>
      rw [Bool.true_and]
      by_cases h3 : ls.length ≤ 20
      · rw [decide_eq_true h3, Bool.true_and]
        refine Ev.congr (f := fun k => spec_roTold.j0 k h a ls false) (fun k => ?_) (Ev.step (f := fun k => spec_roTold.l0 k h a ls (ls.length : Int) ((0 : Nat) : Int)) (fun k => ?_) (roTold_go h a ls (by omega) hi ls.length 0 (by omega)))
        · unfold spec_roTold.f; rw [rnn_some, h1, Option.bind_some, if_pos rfl, rnn_some, h2, Option.bind_some, if_pos rfl, show decide ((ls.length : Int) > 20) = false from decide_eq_false (by omega)]
        · simp only [spec_roTold.j0]; rw [if_ff]; rfl
      · rw [decide_eq_false h3, Bool.false_and]
        exact Ev.congr (f := fun k => spec_roTold.j0 k h a ls true) (fun k => by unfold spec_roTold.f; rw [rnn_some, h1, Option.bind_some, if_pos rfl, rnn_some, h2, Option.bind_some, if_pos rfl, show decide ((ls.length : Int) > 20) = true from decide_eq_true (by omega)]) out
theorem szSS_l0 (l : List (List Int)) (hl : l.length ≤ 1000000) (hm : ∀ x ∈ l, x.length ≤ 9223372036854775807) (d : Nat) : ∀ (i : Nat) (x1 : Int), 0 ≤ x1 → x1 ≤ 1000000 → i + d = l.length → ∃ t, Ev (fun k => laws_szIntSS.l0 k l x1 (i : Int)) t := by
  induction d with
  | zero =>
    intro i x1 _ _ hd
    exact ⟨x1, Ev.step (f := fun _ => some x1) (fun k => by simp only [laws_szIntSS.l0]; rw [if_neg (by omega)]) (Ev.now _)⟩
  | succ d ih =>
    intro i x1 h0 h1 hd
    have hlt : i < l.length := by omega
    have hm1 := hm l[i] (List.getElem_mem hlt)
    have hw : wrap64 (x1 - (l[i].length : Int)) = x1 - (l[i].length : Int) := wrap64_small (by omega) (by omega)
    by_cases c : x1 - (l[i].length : Int) < 0
    · refine ⟨-1, Ev.step (f := fun _ => some (-1)) (fun k => ?_) (Ev.now _)⟩
      simp only [laws_szIntSS.l0]
      rw [if_pos (by omega), if_pos (by omega), rd_atSS l i hlt]
      unfold laws_szIntS.f
      rw [hw, if_pos c, Option.bind_some, if_pos (by decide)]
    · obtain ⟨t, ht⟩ := ih (i + 1) (x1 - (l[i].length : Int)) (by omega) (by omega) (by omega)
      refine ⟨t, Ev.step (f := fun k => laws_szIntSS.l0 k l (x1 - (l[i].length : Int)) ((i + 1 : Nat) : Int)) (fun k => ?_) ht⟩
      simp only [laws_szIntSS.l0]
      rw [if_pos (by omega), if_pos (by omega), rd_atSS l i hlt]
      unfold laws_szIntS.f
      rw [hw, if_neg c, Option.bind_some, if_neg c, show wrap64 ((i : Int) + 1) = ((i + 1 : Nat) : Int) from wrap64_small (by omega) (by omega)]
theorem szSS_ev (l : List (List Int)) (h2 : l.length ≤ 9223372036854775807) (hm : ∀ x ∈ l, x.length ≤ 9223372036854775807) : ∃ t, Ev (fun k => laws_szIntSS.f k l 1000000) t := by
  have e : wrap64 (1000000 - (l.length : Int)) = 1000000 - (l.length : Int) := wrap64_small (by omega) (by omega)
  by_cases c : (1000000 - (l.length : Int)) < 0
  · exact ⟨-1, Ev.congr (f := fun _ => some (-1)) (fun k => by unfold laws_szIntSS.f; rw [e, if_pos c]) (Ev.now _)⟩
  · obtain ⟨t, ht⟩ := szSS_l0 l (by omega) hm l.length 0 (1000000 - (l.length : Int)) (by omega) (by omega) (by omega)
    exact ⟨t, Ev.congr (f := fun k => laws_szIntSS.l0 k l (1000000 - (l.length : Int)) ((0 : Nat) : Int)) (fun k => by unfold laws_szIntSS.f; rw [e, if_neg c]; rfl) ht⟩
/-- Where the size is small enough the rows are few and short. -/
theorem szSS_both (l : List (List Int)) (h2 : l.length ≤ 9223372036854775807) (hm : ∀ x ∈ l, x.length ≤ 9223372036854775807) : ∃ t, Ev (fun k => laws_szIntSS.f k l 1000000) t ∧ (¬ t < 0 → Rr.Small l) := by
  obtain ⟨t, ht⟩ := szSS_ev l h2 hm
  refine ⟨t, ht, fun hn => ?_⟩
  obtain ⟨k, hk⟩ := ht.rounds
  exact laws_szIntSS.le hk (decide_eq_false hn) h2 hm

theorem bapp (a b : List UInt8) : (⟨a.toArray⟩ ++ ⟨b.toArray⟩ : ByteArray) = ⟨(a ++ b).toArray⟩ := by
  apply ByteArray.ext
  rw [ByteArray.data_append]
  simp
theorem bsize (a : List UInt8) : (⟨a.toArray⟩ : ByteArray).size = a.length := by simp [ByteArray.size]
def numB (n : Nat) : ByteArray := ⟨(Go.Lib.decDigits n).toArray⟩
theorem digs_le_ (n : Nat) : (Go.Lib.decDigits n).length ≤ n + 1 := by
  induction n using Nat.strongRecOn with
  | _ n ih =>
    rw [Go.Lib.decDigits]
    split
    · simp
    · have := ih (n / 10) (by omega)
      rw [List.length_append, List.length_singleton]
      omega
theorem numB_size (n : Nat) : (numB n).size ≤ n + 1 := by unfold numB; rw [bsize]; exact digs_le_ n
theorem one_num (d : Nat) (h : d < 10) : strOfNums ([wrap64 (48 + (d : Int)) % 256] : List Int) = ⟨([UInt8.ofNat (48 + d)] : List UInt8).toArray⟩ := by
  have e : wrap64 (48 + (d : Int)) % 256 = ((48 + d : Nat) : Int) := by rw [wrap64_small (by omega) (by omega)]; omega
  rw [e]
  rfl
theorem l1Num_ev (n : Nat) (hn : n ≤ 1000000000000000) : Ev (fun k => spec_l1Num.f k (n : Int)) (numB n) := by
  induction n using Nat.strongRecOn with
  | _ n ih =>
    by_cases h : n < 10
    · refine Ev.step (f := fun _ => some (numB n)) (fun k => ?_) (Ev.now _)
      simp only [spec_l1Num.f]
      rw [if_pos (by omega), one_num n h]
      unfold numB
      rw [Go.Lib.decDigits, dif_pos h]
    · have h1 := ih (n / 10) (by omega) (by omega)
      have hd : wrap64 (Int.tdiv (n : Int) 10) = ((n / 10 : Nat) : Int) := by rw [Int.tdiv_eq_ediv_of_nonneg (by omega), wrap64_small (by omega) (by omega)]; omega
      have hm : Int.tmod (n : Int) 10 = ((n % 10 : Nat) : Int) := by rw [Int.tmod_eq_emod_of_nonneg (by omega)]; omega
      have hs := numB_size (n / 10)
      refine Ev.step (f := fun k => (spec_l1Num.f k ((n / 10 : Nat) : Int)).bind fun t => (if t.size + 1 ≤ 9223372036854775807 then some (t ++ ⟨([UInt8.ofNat (48 + n % 10)] : List UInt8).toArray⟩) else none)) (fun k => ?_) (Ev.bind h1 ?_)
      · simp only [spec_l1Num.f]
        rw [if_neg (by omega), hd, hm]
        congr 1
        funext t
        rw [Option.bind_some, one_num _ (by omega), bsize]
        rfl
      · refine Ev.congr (fun k => if_pos (by omega)) ?_
        refine Ev.congr (f := fun _ => some (numB n)) (fun k => ?_) (Ev.now _)
        unfold numB
        rw [bapp]
        congr 2
        rw [Go.Lib.decDigits.eq_def n, dif_neg h]

theorem join_snoc (xs : List (List UInt8)) (y sep : List UInt8) : Go.Lib.join (xs ++ [y]) sep = if xs = [] then y else Go.Lib.join xs sep ++ sep ++ y := by
  cases xs with
  | nil => rw [if_pos rfl, List.nil_append, Go.Lib.join_one]
  | cons x r =>
    rw [if_neg (by simp), List.cons_append, Go.Lib.join_cons, Go.Lib.join_cons]
    unfold Go.Lib.joinTail
    simp
theorem nums_snoc (l : List Int) (sep : List UInt8) (i : Nat) (h : i < l.length) (n : Nat) (hn : l[i] = (n : Int)) : Hand.numsT (l.take (i + 1)) sep = if i = 0 then Go.Lib.decDigits n else Hand.numsT (l.take i) sep ++ sep ++ Go.Lib.decDigits n := by
  unfold Hand.numsT
  rw [List.take_succ_eq_append_getElem h, List.map_append, List.map_cons, List.map_nil, join_snoc, hn, Int.toNat_natCast]
  by_cases h0 : i = 0
  · subst h0; rw [if_pos rfl, List.take_zero, List.map_nil, if_pos rfl]
  · rw [if_neg h0, if_neg (by
      intro e
      have e2 := congrArg List.length e
      rw [List.length_map, List.length_take, List.length_nil] at e2
      omega)]

theorem roRow_go (ls : List (List Int)) (n : Int) (i : Nat) (hw : wrap64 ((i : Int) + 1) = ((i + 1 : Nat) : Int)) (x : List Int) (hl : x.length ≤ 10) (hf : ∀ m ∈ x, 1 ≤ m ∧ m ≤ 1000) (p : List UInt8) (hp : p.length ≤ 1000000) (R : ByteArray)
    (hR : Ev (fun k => spec_roText.l0 k (⟨(p ++ Hand.numsT x [43]).toArray⟩ : ByteArray) ls n ((i + 1 : Nat) : Int)) R) (e : Nat) : ∀ (j : Nat), j + e = x.length → (Hand.numsT (x.take j) [43]).length ≤ 1002 * j →
    Ev (fun k => spec_roText.l1 k (⟨(p ++ Hand.numsT (x.take j) [43]).toArray⟩ : ByteArray) ls n (i : Int) x (x.length : Int) (j : Int)) R := by
  induction e with
  | zero =>
    intro j hj _
    obtain rfl : j = x.length := by omega
    rw [List.take_length]
    refine Ev.step (f := fun k => spec_roText.l0 k (⟨(p ++ Hand.numsT x [43]).toArray⟩ : ByteArray) ls n ((i + 1 : Nat) : Int)) (fun k => ?_) hR
    simp only [spec_roText.l1]
    rw [if_neg (by omega), hw]
  | succ e ih =>
    intro j hj hlen
    have hlt : j < x.length := by omega
    have hf1 := hf x[j] (List.getElem_mem hlt)
    obtain ⟨m, hm⟩ : ∃ m : Nat, x[j] = (m : Int) := ⟨(x[j]).toNat, by omega⟩
    have hwj : wrap64 ((j : Int) + 1) = ((j + 1 : Nat) : Int) := wrap64_small (by omega) (by omega)
    have hs := nums_snoc x [43] j hlt m hm
    have hd := digs_le_ m
    have hsl : (⟨#[43]⟩ : ByteArray) = ⟨([43] : List UInt8).toArray⟩ := rfl
    have h1 := ih (j + 1) (by omega) (by
      rw [hs]
      split
      · omega
      · rw [List.length_append, List.length_append, List.length_singleton]; omega)
    have hrd : rd x (j : Int) = (m : Int) := by rw [rdI_nat x j hlt, hm]
    by_cases h0 : j = 0
    · rw [if_pos h0] at hs
      rw [hs] at h1
      refine Ev.step (f := fun k => (spec_l1Num.f k (m : Int)).bind fun t => (if (⟨(p ++ Hand.numsT (x.take j) [43]).toArray⟩ : ByteArray).size + t.size ≤ 9223372036854775807 then (spec_roText.l1 k ((⟨(p ++ Hand.numsT (x.take j) [43]).toArray⟩ : ByteArray) ++ t) ls n (i : Int) x (x.length : Int) ((j + 1 : Nat) : Int)) else (none))) (fun k => ?_) (Ev.bind (l1Num_ev m (by omega)) ?_)
      · simp only [spec_roText.l1]
        rw [if_pos (by omega), if_pos (by omega), if_pos (by omega), if_neg (by omega), hrd, hwj]
      · unfold numB
        refine Ev.congr (fun k => if_pos (by rw [bsize, bsize, List.length_append]; omega)) ?_
        have e0 : Hand.numsT (x.take j) [43] = [] := by subst h0; rfl
        rw [bapp, e0, List.append_nil]
        exact h1
    · rw [if_neg h0] at hs
      rw [hs] at h1
      refine Ev.step (f := fun k => (spec_l1Num.f k (m : Int)).bind fun t => (if ((⟨(p ++ Hand.numsT (x.take j) [43]).toArray⟩ : ByteArray) ++ (⟨#[43]⟩ : ByteArray)).size + t.size ≤ 9223372036854775807 then (spec_roText.l1 k (((⟨(p ++ Hand.numsT (x.take j) [43]).toArray⟩ : ByteArray) ++ (⟨#[43]⟩ : ByteArray)) ++ t) ls n (i : Int) x (x.length : Int) ((j + 1 : Nat) : Int)) else (none))) (fun k => ?_) (Ev.bind (l1Num_ev m (by omega)) ?_)
      · simp only [spec_roText.l1]
        rw [if_pos (by omega), if_pos (by omega), if_pos (by omega), if_pos (by omega), if_pos (by rw [bsize, List.length_append]; omega), hrd, hwj]
      · unfold numB
        rw [hsl, bapp]
        refine Ev.congr (fun k => if_pos (by rw [bsize, bsize, List.length_append, List.length_append, List.length_singleton]; omega)) ?_
        rw [bapp, List.append_assoc, List.append_assoc, ← List.append_assoc (Hand.numsT (x.take j) [43])]
        exact h1
theorem rtext_snoc (ls : List (List Int)) (i : Nat) (h : i < ls.length) : Hand.rtext (ls.take (i + 1)) = (if i = 0 then [] else Hand.rtext (ls.take i) ++ [47]) ++ Hand.rword ls[i] := by
  unfold Hand.rtext
  rw [List.take_succ_eq_append_getElem h, List.map_append, List.map_cons, List.map_nil, join_snoc]
  by_cases h0 : i = 0
  · subst h0; rw [if_pos rfl, List.take_zero, List.map_nil, if_pos rfl, List.nil_append]
  · rw [if_neg h0, if_neg (by
      intro e
      have e2 := congrArg List.length e
      rw [List.length_map, List.length_take, List.length_nil] at e2
      omega)]
theorem rword_len {x : List Int} (hl : x.length ≤ 10) (hf : ∀ n ∈ x, 1 ≤ n ∧ n ≤ 1000) : (Hand.rword x).length ≤ 10020 := by
  unfold Hand.rword
  split
  · simp
  · exact row_len hl hf
theorem roText_go (ls : List (List Int)) (hl : ls.length ≤ 20) (hr : ∀ x ∈ ls, x.length ≤ 10 ∧ ∀ m ∈ x, 1 ≤ m ∧ m ≤ 1000) (d : Nat) : ∀ (i : Nat), i + d = ls.length → (Hand.rtext (ls.take i)).length ≤ 10021 * i →
    Ev (fun k => spec_roText.l0 k (⟨(Hand.rtext (ls.take i)).toArray⟩ : ByteArray) ls (ls.length : Int) (i : Int)) (⟨(Hand.rtext ls).toArray⟩ : ByteArray) := by
  induction d with
  | zero =>
    intro i hi _
    obtain rfl : i = ls.length := by omega
    rw [List.take_length]
    refine Ev.step (f := fun _ => some (⟨(Hand.rtext ls).toArray⟩ : ByteArray)) (fun k => ?_) (Ev.now _)
    simp only [spec_roText.l0]
    rw [if_neg (by omega)]
  | succ d ih =>
    intro i hi hlen
    have hlt : i < ls.length := by omega
    have hw : wrap64 ((i : Int) + 1) = ((i + 1 : Nat) : Int) := wrap64_small (by omega) (by omega)
    obtain ⟨hx1, hx2⟩ := hr ls[i] (List.getElem_mem hlt)
    have hs := rtext_snoc ls i hlt
    have hwl := rword_len hx1 hx2
    have hsl : (⟨#[47]⟩ : ByteArray) = ⟨([47] : List UInt8).toArray⟩ := rfl
    have hsq : (⟨#[61]⟩ : ByteArray) = ⟨([61] : List UInt8).toArray⟩ := rfl
    obtain ⟨q, hq⟩ : ∃ q, (if i = 0 then [] else Hand.rtext (ls.take i) ++ [47]) = q := ⟨_, rfl⟩
    have hql : q.length ≤ 10021 * i + 1 := by
      rw [← hq]
      split
      · simp
      · rw [List.length_append, List.length_singleton]; omega
    rw [hq] at hs
    have h1 := ih (i + 1) (by omega) (by
      rw [hs, List.length_append]
      by_cases h0 : i = 0
      · rw [if_pos h0] at hq; rw [← hq, List.length_nil]; omega
      · rw [if_neg h0] at hq; rw [← hq, List.length_append, List.length_singleton]; omega)
    rw [hs] at h1
    have hj2 : ∀ p : List UInt8, p.length ≤ 1000000 → p ++ Hand.numsT ls[i] [43] = q ++ Hand.rword ls[i] → Ev (fun k => spec_roText.j2 k (⟨p.toArray⟩ : ByteArray) ls[i] ls (ls.length : Int) (i : Int)) (⟨(Hand.rtext ls).toArray⟩ : ByteArray) := by
      intro p hp he
      have h2 := roRow_go ls (ls.length : Int) i hw ls[i] hx1 hx2 p hp _ (by rw [he]; exact h1) ls[i].length 0 (by omega) (by rw [List.take_zero]; exact Nat.zero_le _)
      rw [show p ++ Hand.numsT (ls[i].take 0) [43] = p by rw [List.take_zero]; exact List.append_nil p] at h2
      exact Ev.step (f := fun k => spec_roText.l1 k (⟨p.toArray⟩ : ByteArray) ls (ls.length : Int) (i : Int) ls[i] (ls[i].length : Int) ((0 : Nat) : Int)) (fun k => by simp only [spec_roText.j2]; rfl) h2
    have hj1 : Ev (fun k => spec_roText.j1 k (⟨q.toArray⟩ : ByteArray) ls[i] ls (ls.length : Int) (i : Int)) (⟨(Hand.rtext ls).toArray⟩ : ByteArray) := by
      by_cases h0 : ls[i].length = 0
      · have he : ls[i] = [] := List.length_eq_zero_iff.1 h0
        refine Ev.step (f := fun k => spec_roText.j2 k (⟨(q ++ [61]).toArray⟩ : ByteArray) ls[i] ls (ls.length : Int) (i : Int)) (fun k => ?_) (hj2 (q ++ [61]) (by rw [List.length_append, List.length_singleton]; omega) ?_)
        · simp only [spec_roText.j1]
          rw [if_pos (by omega), if_pos (by rw [bsize]; omega), hsq, bapp]
        · rw [show Hand.rword ls[i] = [61] from if_pos h0, he]
          exact List.append_nil _
      · refine Ev.step (f := fun k => spec_roText.j2 k (⟨q.toArray⟩ : ByteArray) ls[i] ls (ls.length : Int) (i : Int)) (fun k => ?_) (hj2 q (by omega) ?_)
        · simp only [spec_roText.j1]
          rw [if_neg (by omega)]
        · rw [show Hand.rword ls[i] = Hand.numsT ls[i] [43] from if_neg h0]
    refine Ev.step (f := fun k => spec_roText.j1 k (⟨q.toArray⟩ : ByteArray) ls[i] ls (ls.length : Int) (i : Int)) (fun k => ?_) hj1
    simp only [spec_roText.l0]
    rw [if_pos (by omega), if_pos (by omega), if_pos (by omega), rd_atSS ls i hlt]
    by_cases h0 : i = 0
    · rw [if_neg (by omega), ← hq, if_pos h0]
      subst h0
      rfl
    · rw [if_pos (by omega), if_pos (by rw [bsize]; omega), ← hq, if_neg h0, hsl, bapp]
theorem spec_ev (ls : List (List Int)) (hs : Rr.Small ls) : Ev (fun k => spec_RoundsText.f k ls) (if Rd.told 10 1000 ls = true then ((⟨(Hand.rtext ls).toArray⟩ : ByteArray), true) else ((⟨#[]⟩ : ByteArray), false)) := by
  unfold spec_RoundsText.f
  refine Ev.bind (roTold_ev 10 1000 ls hs) ?_
  cases ht : Rd.told 10 1000 ls with
  | false => exact Ev.congr (f := fun _ => some ((⟨#[]⟩ : ByteArray), false)) (fun k => by rw [if_ff]) (Ev.now _)
  | true =>
    have h3 := (Rd.told_parts ht).2.2.1
    have h1 := roText_go ls h3 (told_rows ht) ls.length 0 (by omega) (by rw [List.take_zero]; exact Nat.zero_le _)
    rw [List.take_zero] at h1
    refine Ev.congr (f := _) (fun k => if_pos rfl) ?_
    refine Ev.bind (f := fun _ t => some (t, true)) (Ev.congr (f := fun k => spec_roText.l0 k (⟨(Hand.rtext []).toArray⟩ : ByteArray) ls (ls.length : Int) ((0 : Nat) : Int)) (fun k => by unfold spec_roText.f; rfl) h1) ?_
    rw [if_pos rfl]
    exact Ev.now _
theorem FnExactRoundsText : laws_FnExactRoundsText.Pure := by
  intro l0 hm
  apply Ev.rounds
  unfold laws_FnExactRoundsText.f
  obtain ⟨t, ht, hsm⟩ := szSS_both l0 hm.1 hm.2
  refine Ev.bind ht ?_
  by_cases hn : t < 0
  · exact Ev.congr (f := fun _ => some true) (fun k => if_pos hn) (Ev.now _)
  · have hs := hsm hn
    have hto : ∀ b, Ev (fun k => laws_toIntSS.f k l0 b) l0 := fun b => Ev.now _
    have hsp := spec_ev l0 hs
    have him : Ev (fun k => impl_RoundsText.f k l0) (if Rd.told 10 1000 l0 = true then ((⟨(Hand.rtext l0).toArray⟩ : ByteArray), true) else ((⟨#[]⟩ : ByteArray), false)) := Ev.now _
    have hx : Ev (fun k => laws_intactIntSS.f k l0 l0) true := Ev.now _
    refine Ev.congr (f := _) (fun k => if_neg hn) ?_
    refine Ev.bind (hto false) ?_
    refine Ev.bind hsp ?_
    refine Ev.bind (hto false) ?_
    refine Ev.bind him ?_
    refine Ev.congr (fun k => if_pos rfl) ?_
    refine Ev.congr (fun k => if_neg (by simp)) ?_
    refine Ev.bind (hto false) ?_
    refine Ev.bind hx ?_
    refine Ev.congr (fun k => if_pos rfl) ?_
    refine Ev.bind (hto true) ?_
    refine Ev.bind him ?_
    refine Ev.congr (fun k => if_pos rfl) ?_
    exact Ev.congr (fun k => if_neg (by simp)) (Ev.now _)

end Go.Proofs.YtnolocmcjcjjcaaDoor.Pure
