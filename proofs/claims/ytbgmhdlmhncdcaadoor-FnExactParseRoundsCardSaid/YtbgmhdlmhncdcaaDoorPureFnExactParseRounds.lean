/- The program's ParseRounds answers as the reference's does, in memory of its own, for every text; no conditions. -/
import Derived.Test.YtbgmhdlmhncdcaaDoorHPRounds
namespace Go.Proofs.YtbgmhdlmhncdcaaDoor.Pure
open Go.RowKit Go.Proofs.YtbgmhdlmhncdcaaDoor.QFnExactParseRounds Go.Proofs.YtbgmhdlmhncdcaaDoorW.PrintWords Go.Proofs.YtbgmhdlmhncdcaaDoorW.PrintLast Go.Proofs.YtbgmhdlmhncdcaaDoorW.PrintMore
set_option linter.unusedVariables false

theorem wrap64_small {x : Int} (h0 : -9223372036854775808 ≤ x) (h1 : x < 9223372036854775808) : wrap64 x = x := by
  unfold wrap64; omega
theorem l1In_some (a b c : Int) : spec_l1In.f a b c = some (decide (b ≤ a ∧ a ≤ c)) := by
  unfold spec_l1In.f
  by_cases h : a ≥ b
  · rw [if_pos h]; congr 1; rw [Bool.eq_iff_iff]; simp; omega
  · rw [if_neg h]; congr 1; symm; rw [decide_eq_false_iff_not]; omega
theorem l1In_yes {a b c : Int} (h : b ≤ a ∧ a ≤ c) : spec_l1In.f a b c = some true := by rw [l1In_some, decide_eq_true h]
theorem l1In_no {a b c : Int} (h : ¬ (b ≤ a ∧ a ≤ c)) : spec_l1In.f a b c = some false := by rw [l1In_some, decide_eq_false h]
theorem if_ff {α : Type} (x y : α) : (if false = true then x else y) = y := if_neg (by decide)

theorem bapp (a b : List UInt8) : (⟨a.toArray⟩ ++ ⟨b.toArray⟩ : ByteArray) = ⟨(a ++ b).toArray⟩ := by
  apply ByteArray.ext
  rw [ByteArray.data_append]
  simp
theorem bsize (a : List UInt8) : (⟨a.toArray⟩ : ByteArray).size = a.length := by simp [ByteArray.size]
def numB (n : Nat) : ByteArray := ⟨(Go.Lib.decDigits n).toArray⟩
theorem digs_le_ (n : Nat) : (Go.Lib.decDigits n).length ≤ n + 1 := by
  induction n using Nat.strongRecOn with
  | _ n ih =>
    rw [Go.Lib.decDigits]
    split
    · simp
    · have := ih (n / 10) (by omega)
      rw [List.length_append, List.length_singleton]
      omega
theorem numB_size (n : Nat) : (numB n).size ≤ n + 1 := by unfold numB; rw [bsize]; exact digs_le_ n
theorem one_num (d : Nat) (h : d < 10) : strOfNums ([wrap64 (48 + (d : Int)) % 256] : List Int) = ⟨([UInt8.ofNat (48 + d)] : List UInt8).toArray⟩ := by
  have e : wrap64 (48 + (d : Int)) % 256 = ((48 + d : Nat) : Int) := by rw [wrap64_small (by omega) (by omega)]; omega
  rw [e]
  rfl
theorem l1Num_ev (n : Nat) (hn : n ≤ 1000000000000000) : Ev (fun k => spec_l1Num.f k (n : Int)) (numB n) := by
  induction n using Nat.strongRecOn with
  | _ n ih =>
    by_cases h : n < 10
    · refine Ev.step (f := fun _ => some (numB n)) (fun k => ?_) (Ev.now _)
      simp only [spec_l1Num.f]
      rw [if_pos (by omega), one_num n h]
      unfold numB
      rw [Go.Lib.decDigits, dif_pos h]
    · have h1 := ih (n / 10) (by omega) (by omega)
      have hd : wrap64 (Int.tdiv (n : Int) 10) = ((n / 10 : Nat) : Int) := by rw [Int.tdiv_eq_ediv_of_nonneg (by omega), wrap64_small (by omega) (by omega)]; omega
      have hm : Int.tmod (n : Int) 10 = ((n % 10 : Nat) : Int) := by rw [Int.tmod_eq_emod_of_nonneg (by omega)]; omega
      have hs := numB_size (n / 10)
      refine Ev.step (f := fun k => (spec_l1Num.f k ((n / 10 : Nat) : Int)).bind fun t => (if t.size + 1 ≤ 9223372036854775807 then some (t ++ ⟨([UInt8.ofNat (48 + n % 10)] : List UInt8).toArray⟩) else none)) (fun k => ?_) (Ev.bind h1 ?_)
      · simp only [spec_l1Num.f]
        rw [if_neg (by omega), hd, hm]
        congr 1
        funext t
        rw [Option.bind_some, one_num _ (by omega), bsize]
        rfl
      · refine Ev.congr (fun k => if_pos (by omega)) ?_
        refine Ev.congr (f := fun _ => some (numB n)) (fun k => ?_) (Ev.now _)
        unfold numB
        rw [bapp]
        congr 2
        rw [Go.Lib.decDigits.eq_def n, dif_neg h]

theorem join_snoc (xs : List (List UInt8)) (y sep : List UInt8) : Go.Lib.join (xs ++ [y]) sep = if xs = [] then y else Go.Lib.join xs sep ++ sep ++ y := by
  cases xs with
  | nil => rw [if_pos rfl, List.nil_append, Go.Lib.join_one]
  | cons x r =>
    rw [if_neg (by simp), List.cons_append, Go.Lib.join_cons, Go.Lib.join_cons]
    unfold Go.Lib.joinTail
    simp
theorem nums_snoc (l : List Int) (sep : List UInt8) (i : Nat) (h : i < l.length) (n : Nat) (hn : l[i] = (n : Int)) : Hand.numsT (l.take (i + 1)) sep = if i = 0 then Go.Lib.decDigits n else Hand.numsT (l.take i) sep ++ sep ++ Go.Lib.decDigits n := by
  unfold Hand.numsT
  rw [List.take_succ_eq_append_getElem h, List.map_append, List.map_cons, List.map_nil, join_snoc, hn, Int.toNat_natCast]
  by_cases h0 : i = 0
  · subst h0; rw [if_pos rfl, List.take_zero, List.map_nil, if_pos rfl]
  · rw [if_neg h0, if_neg (by
      intro e
      have e2 := congrArg List.length e
      rw [List.length_map, List.length_take, List.length_nil] at e2
      omega)]

theorem rnn_some (a b c : Int) : spec_l1In.f a b c = some (Rd.inn a b c) := by rw [l1In_some]; unfold Rd.inn; rw [Bool.decide_and]
theorem rdI_nat (l : List Int) (i : Nat) (h : i < l.length) : rd l (i : Int) = l[i] := by unfold rd; simp [h]
theorem l1Rising_go (a : Int) (l : List Int) (hl : l.length < 1000000000000) (d : Nat) : ∀ (i : Nat), i + d = l.length → Ev (fun k => spec_l1Rising.l0 k l 1 a l (l.length : Int) (i : Int)) ((List.range' i d).all (Rd.okAt a l)) := by
  induction d with
  | zero =>
    intro i hi
    refine Ev.step (f := fun _ => some true) (fun k => ?_) (Ev.now _)
    simp only [spec_l1Rising.l0]; rw [if_neg (by omega)]
  | succ d ih =>
    intro i hi
    have hlt : i < l.length := by omega
    have hw : wrap64 ((i : Int) + 1) = ((i + 1 : Nat) : Int) := wrap64_small (by omega) (by omega)
    have hg : l.getD i 0 = l[i] := Rd.getD_at l i hlt
    rw [show List.range' i (d + 1) = i :: List.range' (i + 1) d from rfl, List.all_cons]
    cases hc : Rd.inn l[i] 1 a with
    | false =>
      rw [show Rd.okAt a l i = false by unfold Rd.okAt; rw [hg, hc]; rfl, Bool.false_and]
      refine Ev.step (f := fun _ => some false) (fun k => ?_) (Ev.now _)
      simp only [spec_l1Rising.l0]
      rw [if_pos (by omega), if_pos (by omega), if_pos (by omega), rdI_nat l i hlt, rnn_some, hc, Option.bind_some, if_ff]
    | true =>
      by_cases h0 : i = 0
      · rw [show Rd.okAt a l i = true by unfold Rd.okAt; rw [hg, hc, decide_eq_true h0]; rfl, Bool.true_and]
        refine Ev.step (f := fun k => spec_l1Rising.l0 k l 1 a l (l.length : Int) ((i + 1 : Nat) : Int)) (fun k => ?_) (ih (i + 1) (by omega))
        simp only [spec_l1Rising.l0]
        rw [if_pos (by omega), if_pos (by omega), if_pos (by omega), rdI_nat l i hlt, rnn_some, hc, Option.bind_some, if_pos rfl, if_neg (by omega), hw]
      · have hm : wrap64 ((i : Int) - 1) = ((i - 1 : Nat) : Int) := (wrap64_small (by omega) (by omega)).trans (by omega)
        have hg2 : l.getD (i - 1) 0 = l[i - 1] := Rd.getD_at l (i - 1) (by omega)
        by_cases h1 : l[i - 1] ≥ l[i]
        · rw [show Rd.okAt a l i = false by unfold Rd.okAt; rw [hg, hg2, hc, decide_eq_false h0, decide_eq_false (by omega)]; rfl, Bool.false_and]
          refine Ev.step (f := fun _ => some false) (fun k => ?_) (Ev.now _)
          simp only [spec_l1Rising.l0]
          rw [if_pos (by omega), if_pos (by omega), if_pos (by omega), rdI_nat l i hlt, rnn_some, hc, Option.bind_some, if_pos rfl, if_pos (by omega), hm, if_pos (by omega), if_pos (by omega), rdI_nat l (i - 1) (by omega), if_pos h1]
        · rw [show Rd.okAt a l i = true by unfold Rd.okAt; rw [hg, hg2, hc, decide_eq_false h0, decide_eq_true (by omega)]; rfl, Bool.true_and]
          refine Ev.step (f := fun k => spec_l1Rising.l0 k l 1 a l (l.length : Int) ((i + 1 : Nat) : Int)) (fun k => ?_) (ih (i + 1) (by omega))
          simp only [spec_l1Rising.l0]
          rw [if_pos (by omega), if_pos (by omega), if_pos (by omega), rdI_nat l i hlt, rnn_some, hc, Option.bind_some, if_pos rfl, if_pos (by omega), hm, if_pos (by omega), if_pos (by omega), rdI_nat l (i - 1) (by omega), if_neg h1, hw]
theorem l1Rising_ev (a : Int) (l : List Int) (hl : l.length < 1000000000000) : Ev (fun k => spec_l1Rising.f k l 1 a) (Rd.rising a l) := l1Rising_go a l hl l.length 0 (by omega)
theorem roTold_go (h a : Int) (ls : List (List Int)) (hl : ls.length < 1000000000000) (hi : ∀ x ∈ ls, x.length < 1000000000000) (d : Nat) : ∀ (i : Nat), i + d = ls.length → Ev (fun k => spec_roTold.l0 k h a ls (ls.length : Int) (i : Int)) (!((ls.drop i).any (Rd.bad h a))) := by
  induction d with
  | zero =>
    intro i hd
    rw [List.drop_eq_nil_of_le (by omega)]
    refine Ev.step (f := fun _ => some true) (fun k => ?_) (Ev.now _)
    simp only [spec_roTold.l0]; rw [if_neg (by omega)]
  | succ d ih =>
    intro i hd
    have hlt : i < ls.length := by omega
    have hw : wrap64 ((i : Int) + 1) = ((i + 1 : Nat) : Int) := wrap64_small (by omega) (by omega)
    rw [List.drop_eq_getElem_cons hlt, List.any_cons]
    by_cases hc : (ls[i].length : Int) > h
    · rw [show Rd.bad h a ls[i] = true by unfold Rd.bad; rw [decide_eq_true hc]; rfl, Bool.true_or]
      refine Ev.step (f := fun _ => some false) (fun k => ?_) (Ev.now _)
      simp only [spec_roTold.l0]
      rw [if_pos (by omega), if_pos (by omega), if_pos (by omega), rd_L2_nat ls i hlt, if_pos hc]
    · refine Ev.step (f := fun k => (spec_l1Rising.f k ls[i] 1 a).bind fun t => if t = true then spec_roTold.l0 k h a ls (ls.length : Int) ((i + 1 : Nat) : Int) else some false) (fun k => ?_) ?_
      · simp only [spec_roTold.l0]
        rw [if_pos (by omega), if_pos (by omega), if_pos (by omega), rd_L2_nat ls i hlt, if_neg hc, hw]
      · refine Ev.bind (f := fun k t => if t = true then spec_roTold.l0 k h a ls (ls.length : Int) ((i + 1 : Nat) : Int) else some false) (l1Rising_ev a ls[i] (hi _ (List.getElem_mem hlt))) ?_
        cases hr : Rd.rising a ls[i] with
        | true =>
          rw [show Rd.bad h a ls[i] = false by unfold Rd.bad; rw [decide_eq_false hc, hr]; rfl, Bool.false_or]
          exact Ev.congr (f := _) (fun k => if_pos rfl) (ih (i + 1) (by omega))
        | false =>
          rw [show Rd.bad h a ls[i] = true by unfold Rd.bad; rw [decide_eq_false hc, hr]; rfl, Bool.true_or]
          exact Ev.congr (f := fun _ => some false) (fun k => if_ff _ _) (Ev.now _)
theorem roTold_ev (h a : Int) (ls : List (List Int)) (hl : ls.length < 1000000000000) (hi : ∀ x ∈ ls, x.length < 1000000000000) : Ev (fun k => spec_roTold.f k h a ls) (Rd.told h a ls) := by
  unfold Rd.told
  have out : Ev (fun k => spec_roTold.j0 k h a ls true) false := Ev.step (f := fun _ => some false) (fun k => by simp only [spec_roTold.j0]; exact if_pos trivial) (Ev.now _)
  cases h1 : Rd.inn h 1 10 with
  | false =>
    rw [Bool.false_and]
    exact Ev.congr (f := fun k => spec_roTold.j0 k h a ls true) (fun k => by unfold spec_roTold.f; rw [rnn_some, h1, Option.bind_some, if_ff]) out
  | true =>
    rw [Bool.true_and]
    cases h2 : Rd.inn a 0 1000 with
    | false =>
      rw [Bool.false_and]
      exact Ev.congr (f := fun k => spec_roTold.j0 k h a ls true) (fun k => by unfold spec_roTold.f; rw [rnn_some, h1, Option.bind_some, if_pos rfl, rnn_some, h2, Option.bind_some, if_ff]) out
    | true =>
      rw [Bool.true_and]
      by_cases h3 : ls.length ≤ 20
      · rw [decide_eq_true h3, Bool.true_and]
        refine Ev.congr (f := fun k => spec_roTold.j0 k h a ls false) (fun k => ?_) (Ev.step (f := fun k => spec_roTold.l0 k h a ls (ls.length : Int) ((0 : Nat) : Int)) (fun k => ?_) (roTold_go h a ls (by omega) hi ls.length 0 (by omega)))
        · unfold spec_roTold.f; rw [rnn_some, h1, Option.bind_some, if_pos rfl, rnn_some, h2, Option.bind_some, if_pos rfl, show decide ((ls.length : Int) > 20) = false from decide_eq_false (by omega)]
        · simp only [spec_roTold.j0]; rw [if_ff]; rfl
      · rw [decide_eq_false h3, Bool.false_and]
        exact Ev.congr (f := fun k => spec_roTold.j0 k h a ls true) (fun k => by unfold spec_roTold.f; rw [rnn_some, h1, Option.bind_some, if_pos rfl, rnn_some, h2, Option.bind_some, if_pos rfl, show decide ((ls.length : Int) > 20) = true from decide_eq_true (by omega)]) out

theorem readNumbers_some (s : ByteArray) (hs : s.size ≤ 1000000) (c : UInt8) : impl_readNumbers.f s (⟨#[c]⟩ : ByteArray) = some (Hand.rnRes (Hand.cutAt c s.data.toList)) := by
  unfold impl_readNumbers.f
  rw [if_pos ⟨hs, rfl⟩]
  rfl
theorem rn_cases (xs : List (List UInt8)) : (Hand.rnRes xs = ([], false)) ∨ (Hand.rnRes xs = (Hand.rnVals xs, true) ∧ ∀ x ∈ xs, ∃ v, Hand.wordNum x = some v) := by
  by_cases h : xs.all (fun x => (Hand.wordNum x).isSome) = true
  · refine .inr ⟨by unfold Hand.rnRes; rw [if_pos h], fun x hx => Option.isSome_iff_exists.1 (List.all_eq_true.1 h x hx)⟩
  · exact .inl (by unfold Hand.rnRes; rw [if_neg h])
/-- What the reference reads. -/
def reads (xs : List (List UInt8)) : List Int := xs.map Hand.readNum
theorem reads_len (xs : List (List UInt8)) : (reads xs).length = xs.length := List.length_map ..
theorem reads_words (xs : List (List UInt8)) (h : ∀ x ∈ xs, 0 ≤ Hand.readNum x) : Hand.rnRes xs = (reads xs, true) := by
  have hw : ∀ x ∈ xs, Hand.wordNum x = some (Hand.readNum x) := fun x hx => (Hand.readNum_of (l := x) rfl (h x hx)).1
  unfold Hand.rnRes
  rw [if_pos (List.all_eq_true.2 fun x hx => by rw [hw x hx]; rfl)]
  unfold Hand.rnVals reads
  congr 1
  refine List.map_congr_left fun x hx => ?_
  rw [hw x hx]; rfl
theorem vals_reads (xs : List (List UInt8)) (h : ∀ x ∈ xs, ∃ v, Hand.wordNum x = some v) (hb : ∀ v ∈ Hand.rnVals xs, 0 ≤ v ∧ v < 1000000) : reads xs = Hand.rnVals xs := by
  unfold reads Hand.rnVals
  refine List.map_congr_left fun x hx => ?_
  obtain ⟨v, hv⟩ := h x hx
  have h1 := hb v (by unfold Hand.rnVals; exact List.mem_map.2 ⟨x, hx, by rw [hv]; rfl⟩)
  rw [hv]
  exact Hand.readNum_to hv h1.1 h1.2
theorem rd_mem {l : List Int} {P : Int → Prop} (h : ∀ j : Nat, j < l.length → P (rd l (j : Int))) : ∀ v ∈ l, P v := by
  intro v hv
  obtain ⟨j, hj, rfl⟩ := List.getElem_of_mem hv
  have := h j hj
  rw [rdI_nat l j hj] at this
  exact this
/-- The words of a text whose numbers lie between bounds are their numerals. -/
theorem reads_text (xs : List (List UInt8)) (h : ∀ v ∈ reads xs, 0 ≤ v) (sep : List UInt8) : Hand.numsT (reads xs) sep = Go.Lib.join xs sep := by
  unfold Hand.numsT reads
  congr 1
  rw [List.map_map]
  refine (List.map_congr_left fun x hx => ?_).trans (List.map_id xs)
  have h0 := h (Hand.readNum x) (List.mem_map.2 ⟨x, hx, rfl⟩)
  exact (Hand.wordNum_nat _ _ (Hand.readNum_of (l := x) rfl h0).1 h0).1.symm
theorem join_le (xs : List (List UInt8)) (m : Nat) (h : ∀ x ∈ xs, x.length ≤ m) (c : UInt8) : (Go.Lib.join xs [c]).length ≤ xs.length * (m + 1) := by
  cases xs with
  | nil => simp [Go.Lib.join_nil]
  | cons a r =>
    have h2 : ∀ r : List (List UInt8), (∀ x ∈ r, x.length ≤ m) → (Go.Lib.joinTail [c] r).length ≤ r.length * (m + 1) := by
      intro r
      induction r with
      | nil => intro _; simp [Go.Lib.joinTail]
      | cons b q ih =>
        intro hq
        have h3 := ih fun x hx => hq x (List.mem_cons_of_mem _ hx)
        have h4 := hq b (List.mem_cons_self ..)
        unfold Go.Lib.joinTail at h3 ⊢
        rw [List.map_cons, List.flatten_cons, List.length_append, List.length_append, List.length_singleton, List.length_cons, Nat.add_mul, Nat.one_mul]
        omega
    have h3 := h2 r fun x hx => h x (List.mem_cons_of_mem _ hx)
    have h4 := h a (List.mem_cons_self ..)
    rw [Go.Lib.join_cons, List.length_append, List.length_cons, Nat.add_mul, Nat.one_mul]
    omega
theorem word_le (x : List UInt8) (h0 : 0 ≤ Hand.readNum x) (k : Nat) (hk : 1 ≤ k) (h1 : (Hand.readNum x).toNat < 10 ^ k) : x.length ≤ k := by
  have h2 := (Hand.wordNum_nat _ _ (Hand.readNum_of (l := x) rfl h0).1 h0).1
  have h3 := congrArg List.length h2
  rw [Go.Lib.decDigits_length] at h3
  have := Hand.ndig_le (Hand.readNum x).toNat k hk h1
  omega
def rword (x : List Int) : List UInt8 := if x.length = 0 then [61] else Hand.numsT x [43]
def rtext (ls : List (List Int)) : List UInt8 := Go.Lib.join (ls.map rword) [47]
theorem told_parts {h fl : Int} {ls : List (List Int)} (ht : Rd.told h fl ls = true) : (1 ≤ h ∧ h ≤ 10) ∧ (0 ≤ fl ∧ fl ≤ 1000) ∧ ls.length ≤ 20 ∧ ∀ x ∈ ls, (x.length : Int) ≤ h ∧ Rd.rising fl x = true := by
  unfold Rd.told Rd.inn at ht
  simp only [Bool.and_eq_true, decide_eq_true_eq, Bool.not_eq_true', List.any_eq_false] at ht
  obtain ⟨h1, h2, h3, h4⟩ := ht
  refine ⟨h1, h2, h3, fun x hx => ?_⟩
  have h5 := h4 x hx
  unfold Rd.bad at h5
  rw [Bool.or_eq_true, decide_eq_true_eq, Bool.not_eq_true'] at h5
  refine ⟨by omega, ?_⟩
  cases hr : Rd.rising fl x with
  | true => rfl
  | false => exact absurd (Or.inr hr) h5
theorem rising_floor {fl : Int} {l : List Int} (h : Rd.rising fl l = true) : ∀ x ∈ l, 1 ≤ x ∧ x ≤ fl := by
  intro x hx
  obtain ⟨i, hi, rfl⟩ := List.getElem_of_mem hx
  unfold Rd.rising at h
  rw [List.all_eq_true] at h
  have h1 := h i (by rw [List.mem_range'_1]; omega)
  unfold Rd.okAt Rd.inn at h1
  rw [Rd.getD_at l i hi] at h1
  simp only [Bool.and_eq_true, decide_eq_true_eq] at h1
  exact h1.1
theorem row_len {x : List Int} (hl : x.length ≤ 10) (hf : ∀ n ∈ x, 1 ≤ n ∧ n ≤ 1000) : (Hand.numsT x [43]).length ≤ 10 * (1 + 1001) := by
  unfold Hand.numsT
  refine Nat.le_trans (join_le _ 1001 (fun y hy => ?_) 43) ?_
  · obtain ⟨n, hn, rfl⟩ := List.mem_map.1 hy
    have h1 := digs_le_ n.toNat
    have h2 := hf n hn
    omega
  · rw [List.length_map]
    omega
theorem told_rows {h a : Int} {ls : List (List Int)} (ht : Rd.told h a ls = true) : ∀ x ∈ ls, x.length ≤ 10 ∧ ∀ n ∈ x, 1 ≤ n ∧ n ≤ 1000 := by
  intro x hx
  obtain ⟨h1, h2, h3, h4⟩ := told_parts ht
  obtain ⟨h5, h6⟩ := h4 x hx
  exact ⟨by omega, fun n hn => by have := rising_floor h6 n hn; omega⟩
theorem roRow_go (ls : List (List Int)) (n : Int) (i : Nat) (hw : wrap64 ((i : Int) + 1) = ((i + 1 : Nat) : Int)) (x : List Int) (hl : x.length ≤ 10) (hf : ∀ m ∈ x, 1 ≤ m ∧ m ≤ 1000) (p : List UInt8) (hp : p.length ≤ 1000000) (R : ByteArray)
    (hR : Ev (fun k => spec_roText.l0 k (⟨(p ++ Hand.numsT x [43]).toArray⟩ : ByteArray) ls n ((i + 1 : Nat) : Int)) R) (e : Nat) : ∀ (j : Nat), j + e = x.length → (Hand.numsT (x.take j) [43]).length ≤ 1002 * j →
    Ev (fun k => spec_roText.l1 k (⟨(p ++ Hand.numsT (x.take j) [43]).toArray⟩ : ByteArray) ls n (i : Int) x (x.length : Int) (j : Int)) R := by
  induction e with
  | zero =>
    intro j hj _
    obtain rfl : j = x.length := by omega
    rw [List.take_length]
    refine Ev.step (f := fun k => spec_roText.l0 k (⟨(p ++ Hand.numsT x [43]).toArray⟩ : ByteArray) ls n ((i + 1 : Nat) : Int)) (fun k => ?_) hR
    simp only [spec_roText.l1]
    rw [if_neg (by omega), hw]
  | succ e ih =>
    intro j hj hlen
    have hlt : j < x.length := by omega
    have hf1 := hf x[j] (List.getElem_mem hlt)
    obtain ⟨m, hm⟩ : ∃ m : Nat, x[j] = (m : Int) := ⟨(x[j]).toNat, by omega⟩
    have hwj : wrap64 ((j : Int) + 1) = ((j + 1 : Nat) : Int) := wrap64_small (by omega) (by omega)
    have hs := nums_snoc x [43] j hlt m hm
    have hd := digs_le_ m
    have hsl : (⟨#[43]⟩ : ByteArray) = ⟨([43] : List UInt8).toArray⟩ := rfl
    have h1 := ih (j + 1) (by omega) (by
      rw [hs]
      split
      · omega
      · rw [List.length_append, List.length_append, List.length_singleton]; omega)
    have hrd : rd x (j : Int) = (m : Int) := by rw [rdI_nat x j hlt, hm]
    by_cases h0 : j = 0
    · rw [if_pos h0] at hs
      rw [hs] at h1
      refine Ev.step (f := fun k => (spec_l1Num.f k (m : Int)).bind fun t => (if (⟨(p ++ Hand.numsT (x.take j) [43]).toArray⟩ : ByteArray).size + t.size ≤ 9223372036854775807 then (spec_roText.l1 k ((⟨(p ++ Hand.numsT (x.take j) [43]).toArray⟩ : ByteArray) ++ t) ls n (i : Int) x (x.length : Int) ((j + 1 : Nat) : Int)) else (none))) (fun k => ?_) (Ev.bind (l1Num_ev m (by omega)) ?_)
      · simp only [spec_roText.l1]
        rw [if_pos (by omega), if_pos (by omega), if_pos (by omega), if_neg (by omega), hrd, hwj]
      · unfold numB
        refine Ev.congr (fun k => if_pos (by rw [bsize, bsize, List.length_append]; omega)) ?_
        have e0 : Hand.numsT (x.take j) [43] = [] := by subst h0; rfl
        rw [bapp, e0, List.append_nil]
        exact h1
    · rw [if_neg h0] at hs
      rw [hs] at h1
      refine Ev.step (f := fun k => (spec_l1Num.f k (m : Int)).bind fun t => (if ((⟨(p ++ Hand.numsT (x.take j) [43]).toArray⟩ : ByteArray) ++ (⟨#[43]⟩ : ByteArray)).size + t.size ≤ 9223372036854775807 then (spec_roText.l1 k (((⟨(p ++ Hand.numsT (x.take j) [43]).toArray⟩ : ByteArray) ++ (⟨#[43]⟩ : ByteArray)) ++ t) ls n (i : Int) x (x.length : Int) ((j + 1 : Nat) : Int)) else (none))) (fun k => ?_) (Ev.bind (l1Num_ev m (by omega)) ?_)
      · simp only [spec_roText.l1]
        rw [if_pos (by omega), if_pos (by omega), if_pos (by omega), if_pos (by omega), if_pos (by rw [bsize, List.length_append]; omega), hrd, hwj]
      · unfold numB
        rw [hsl, bapp]
        refine Ev.congr (fun k => if_pos (by rw [bsize, bsize, List.length_append, List.length_append, List.length_singleton]; omega)) ?_
        rw [bapp, List.append_assoc, List.append_assoc, ← List.append_assoc (Hand.numsT (x.take j) [43])]
        exact h1
theorem rtext_snoc (ls : List (List Int)) (i : Nat) (h : i < ls.length) : rtext (ls.take (i + 1)) = (if i = 0 then [] else rtext (ls.take i) ++ [47]) ++ rword ls[i] := by
  unfold rtext
  rw [List.take_succ_eq_append_getElem h, List.map_append, List.map_cons, List.map_nil, join_snoc]
  by_cases h0 : i = 0
  · subst h0; rw [if_pos rfl, List.take_zero, List.map_nil, if_pos rfl, List.nil_append]
  · rw [if_neg h0, if_neg (by
      intro e
      have e2 := congrArg List.length e
      rw [List.length_map, List.length_take, List.length_nil] at e2
      omega)]
theorem rword_len {x : List Int} (hl : x.length ≤ 10) (hf : ∀ n ∈ x, 1 ≤ n ∧ n ≤ 1000) : (rword x).length ≤ 10020 := by
  unfold rword
  split
  · simp
  · exact row_len hl hf
theorem roText_go (ls : List (List Int)) (hl : ls.length ≤ 20) (hr : ∀ x ∈ ls, x.length ≤ 10 ∧ ∀ m ∈ x, 1 ≤ m ∧ m ≤ 1000) (d : Nat) : ∀ (i : Nat), i + d = ls.length → (rtext (ls.take i)).length ≤ 10021 * i →
    Ev (fun k => spec_roText.l0 k (⟨(rtext (ls.take i)).toArray⟩ : ByteArray) ls (ls.length : Int) (i : Int)) (⟨(rtext ls).toArray⟩ : ByteArray) := by
  induction d with
  | zero =>
    intro i hi _
    obtain rfl : i = ls.length := by omega
    rw [List.take_length]
    refine Ev.step (f := fun _ => some (⟨(rtext ls).toArray⟩ : ByteArray)) (fun k => ?_) (Ev.now _)
    simp only [spec_roText.l0]
    rw [if_neg (by omega)]
  | succ d ih =>
    intro i hi hlen
    have hlt : i < ls.length := by omega
    have hw : wrap64 ((i : Int) + 1) = ((i + 1 : Nat) : Int) := wrap64_small (by omega) (by omega)
    obtain ⟨hx1, hx2⟩ := hr ls[i] (List.getElem_mem hlt)
    have hs := rtext_snoc ls i hlt
    have hwl := rword_len hx1 hx2
    have hsl : (⟨#[47]⟩ : ByteArray) = ⟨([47] : List UInt8).toArray⟩ := rfl
    have hsq : (⟨#[61]⟩ : ByteArray) = ⟨([61] : List UInt8).toArray⟩ := rfl
    obtain ⟨q, hq⟩ : ∃ q, (if i = 0 then [] else rtext (ls.take i) ++ [47]) = q := ⟨_, rfl⟩
    have hql : q.length ≤ 10021 * i + 1 := by
      rw [← hq]
      split
      · simp
      · rw [List.length_append, List.length_singleton]; omega
    rw [hq] at hs
    have h1 := ih (i + 1) (by omega) (by
      rw [hs, List.length_append]
      by_cases h0 : i = 0
      · rw [if_pos h0] at hq; rw [← hq, List.length_nil]; omega
      · rw [if_neg h0] at hq; rw [← hq, List.length_append, List.length_singleton]; omega)
    rw [hs] at h1
    have hj2 : ∀ p : List UInt8, p.length ≤ 1000000 → p ++ Hand.numsT ls[i] [43] = q ++ rword ls[i] → Ev (fun k => spec_roText.j2 k (⟨p.toArray⟩ : ByteArray) ls[i] ls (ls.length : Int) (i : Int)) (⟨(rtext ls).toArray⟩ : ByteArray) := by
      intro p hp he
      have h2 := roRow_go ls (ls.length : Int) i hw ls[i] hx1 hx2 p hp _ (by rw [he]; exact h1) ls[i].length 0 (by omega) (by rw [List.take_zero]; exact Nat.zero_le _)
      rw [show p ++ Hand.numsT (ls[i].take 0) [43] = p by rw [List.take_zero]; exact List.append_nil p] at h2
      exact Ev.step (f := fun k => spec_roText.l1 k (⟨p.toArray⟩ : ByteArray) ls (ls.length : Int) (i : Int) ls[i] (ls[i].length : Int) ((0 : Nat) : Int)) (fun k => by simp only [spec_roText.j2]; rfl) h2
    have hj1 : Ev (fun k => spec_roText.j1 k (⟨q.toArray⟩ : ByteArray) ls[i] ls (ls.length : Int) (i : Int)) (⟨(rtext ls).toArray⟩ : ByteArray) := by
      by_cases h0 : ls[i].length = 0
      · have he : ls[i] = [] := List.length_eq_zero_iff.1 h0
        refine Ev.step (f := fun k => spec_roText.j2 k (⟨(q ++ [61]).toArray⟩ : ByteArray) ls[i] ls (ls.length : Int) (i : Int)) (fun k => ?_) (hj2 (q ++ [61]) (by rw [List.length_append, List.length_singleton]; omega) ?_)
        · simp only [spec_roText.j1]
          rw [if_pos (by omega), if_pos (by rw [bsize]; omega), hsq, bapp]
        · rw [show rword ls[i] = [61] from if_pos h0, he]
          exact List.append_nil _
      · refine Ev.step (f := fun k => spec_roText.j2 k (⟨q.toArray⟩ : ByteArray) ls[i] ls (ls.length : Int) (i : Int)) (fun k => ?_) (hj2 q (by omega) ?_)
        · simp only [spec_roText.j1]
          rw [if_neg (by omega)]
        · rw [show rword ls[i] = Hand.numsT ls[i] [43] from if_neg h0]
    refine Ev.step (f := fun k => spec_roText.j1 k (⟨q.toArray⟩ : ByteArray) ls[i] ls (ls.length : Int) (i : Int)) (fun k => ?_) hj1
    simp only [spec_roText.l0]
    rw [if_pos (by omega), if_pos (by omega), if_pos (by omega), rd_L2_nat ls i hlt]
    by_cases h0 : i = 0
    · rw [if_neg (by omega), ← hq, if_pos h0]
      subst h0
      rfl
    · rw [if_pos (by omega), if_pos (by rw [bsize]; omega), ← hq, if_neg h0, hsl, bapp]

theorem bt_data (s : ByteArray) (i : Nat) (h : i < s.data.toList.length) : bt s (i : Int) = ((s.data.toList[i]).toNat : Int) := by
  have h2 : i < s.size := by rw [Go.Lib.size_eq]; exact h
  unfold bt
  rw [dif_pos (by rw [Int.toNat_natCast]; exact h2)]
  congr 2
theorem l1Read_go (s : ByteArray) (hs : s.data.toList.length ≤ 6) (d : Nat) : ∀ i : Nat, i + d = s.data.toList.length → (s.data.toList.take i).all Hand.isDig = true →
    Ev (fun k => spec_l1Read.l0 k s (Hand.val (s.data.toList.take i) : Int) (i : Int)) (if s.data.toList.all Hand.isDig = true then (Hand.val s.data.toList : Int) else -1) := by
  induction d with
  | zero =>
    intro i hi ha
    have e : s.data.toList.take i = s.data.toList := List.take_of_length_le (by omega)
    rw [e] at ha ⊢
    rw [if_pos ha]
    refine Ev.step (f := fun _ => some (Hand.val s.data.toList : Int)) (fun k => ?_) (Ev.now _)
    simp only [spec_l1Read.l0]
    rw [if_neg (by rw [Go.Lib.size_eq]; omega)]
  | succ d ih =>
    intro i hi ha
    have hlt : i < s.data.toList.length := by omega
    have hb := bt_data s i hlt
    have hw : wrap64 ((i : Int) + 1) = ((i + 1 : Nat) : Int) := wrap64_small (by omega) (by omega)
    have hsz : (i : Int) < (s.size : Int) := by rw [Go.Lib.size_eq]; omega
    have hdig : s.data.toList.all Hand.isDig = true → 48 ≤ (s.data.toList[i]).toNat ∧ (s.data.toList[i]).toNat ≤ 57 := fun h => (Hand.isDig_iff _).1 (List.all_eq_true.1 h _ (List.getElem_mem hlt))
    have hl255 := (s.data.toList[i]).toNat_lt
    by_cases c1 : bt s (i : Int) < 48
    · refine Ev.step (f := fun _ => some (-1 : Int)) (fun k => ?_) ?_
      · simp only [spec_l1Read.l0]; rw [if_pos hsz, if_pos (by omega), if_pos c1]
      · rw [if_neg (fun h => by have := hdig h; omega)]; exact Ev.now _
    · by_cases c2 : bt s (i : Int) > 57
      · refine Ev.step (f := fun _ => some (-1 : Int)) (fun k => ?_) ?_
        · simp only [spec_l1Read.l0]; rw [if_pos hsz, if_pos (by omega), if_neg c1, if_pos c2]
        · rw [if_neg (fun h => by have := hdig h; omega)]; exact Ev.now _
      · have hd1 : Hand.isDig (s.data.toList[i]) = true := (Hand.isDig_iff _).2 (by omega)
        have ht : s.data.toList.take (i + 1) = s.data.toList.take i ++ [s.data.toList[i]] := List.take_succ_eq_append_getElem hlt
        have hv := Hand.val_lt _ ha
        have hp : 10 ^ (s.data.toList.take i).length ≤ 10 ^ 6 := Nat.pow_le_pow_right (by omega) (by rw [List.length_take]; omega)
        have h1 := ih (i + 1) (by omega) (by rw [ht, List.all_append, ha, List.all_cons, hd1]; rfl)
        rw [ht, Hand.val_snoc] at h1
        have hw1 : wrap64 (10 * (Hand.val (s.data.toList.take i) : Int)) = 10 * (Hand.val (s.data.toList.take i) : Int) := wrap64_small (by omega) (by omega)
        have hw2 : wrap64 (10 * (Hand.val (s.data.toList.take i) : Int) + (bt s (i : Int) - 48) % 256) = ((Hand.val (s.data.toList.take i) * 10 + ((s.data.toList[i]).toNat - 48) : Nat) : Int) := by rw [wrap64_small (by omega) (by omega)]; omega
        refine Ev.step (f := fun k => spec_l1Read.l0 k s ((Hand.val (s.data.toList.take i) * 10 + ((s.data.toList[i]).toNat - 48) : Nat) : Int) ((i + 1 : Nat) : Int)) (fun k => ?_) h1
        simp only [spec_l1Read.l0]
        rw [if_pos hsz, if_pos (by omega), if_neg c1, if_neg c2, hw1, hw2, hw]
theorem l1Read_ev (s : ByteArray) : Ev (fun k => spec_l1Read.f k s) (Hand.readNum s.data.toList) := by
  have hsz := Go.Lib.size_eq s
  by_cases h : 1 ≤ s.data.toList.length ∧ s.data.toList.length ≤ 6
  · have hg := l1Read_go s h.2 s.data.toList.length 0 (by omega) rfl
    rw [List.take_zero] at hg
    have hne : s.data.toList ≠ [] := fun e => by rw [e] at h; simp at h
    obtain ⟨c, r, hcr⟩ := List.exists_cons_of_ne_nil hne
    have hb : bt s 0 = (c.toNat : Int) := by
      have := bt_data s 0 (by omega)
      rw [show ((0 : Nat) : Int) = 0 from rfl] at this
      rw [this]
      congr 2
      simp [hcr]
    have hcan : Hand.readNum s.data.toList = if ((c.toNat = 48) ∧ r ≠ []) then -1 else (if s.data.toList.all Hand.isDig = true then (Hand.val s.data.toList : Int) else -1) := by
      have hA : Hand.canon s.data.toList = (s.data.toList.all Hand.isDig && (r.isEmpty || decide (c.toNat ≠ 48))) := by rw [hcr]; rfl
      unfold Hand.readNum
      rw [hA]
      have h6 := h.2
      generalize s.data.toList.all Hand.isDig = D
      generalize Hand.val s.data.toList = V
      generalize s.data.toList.length = n at h6
      by_cases c1 : c.toNat = 48 <;> by_cases c2 : r = [] <;> cases D <;> simp [c1, c2, h6]
    rw [hcan]
    have hrl : r ≠ [] ↔ (s.size : Int) > 1 := by
      rw [hsz, hcr, List.length_cons]
      cases r with
      | nil => simp
      | cons x y => simp; omega
    by_cases c1 : bt s 0 = 48
    · by_cases c2 : (s.size : Int) > 1
      · rw [if_pos ⟨by omega, hrl.2 c2⟩]
        refine Ev.congr (f := fun k => spec_l1Read.j0 k s true) (fun k => ?_) (Ev.step (f := fun _ => some (-1 : Int)) (fun k => ?_) (Ev.now _))
        · unfold spec_l1Read.f
          rw [l1In_yes (by omega), Option.bind_some, if_pos rfl, if_pos (by omega), if_pos c1, decide_eq_true c2]
        · simp only [spec_l1Read.j0]; rw [if_pos trivial]
      · rw [if_neg (fun h2 => c2 (hrl.1 h2.2))]
        refine Ev.congr (f := fun k => spec_l1Read.j0 k s false) (fun k => ?_) (Ev.step (f := fun k => spec_l1Read.l0 k s 0 0) (fun k => ?_) hg)
        · unfold spec_l1Read.f
          rw [l1In_yes (by omega), Option.bind_some, if_pos rfl, if_pos (by omega), if_pos c1, decide_eq_false c2]
        · simp only [spec_l1Read.j0]; rw [if_neg (by simp)]
    · rw [if_neg (fun h2 => c1 (by omega))]
      refine Ev.congr (f := fun k => spec_l1Read.j0 k s false) (fun k => ?_) (Ev.step (f := fun k => spec_l1Read.l0 k s 0 0) (fun k => ?_) hg)
      · unfold spec_l1Read.f
        rw [l1In_yes (by omega), Option.bind_some, if_pos rfl, if_pos (by omega), if_neg c1]
      · simp only [spec_l1Read.j0]; rw [if_neg (by simp)]
  · have hr : Hand.readNum s.data.toList = -1 := by
      unfold Hand.readNum
      rw [if_neg]
      rintro ⟨h1, h2⟩
      refine h ⟨?_, h2⟩
      cases e : s.data.toList with
      | nil => rw [e] at h1; cases h1
      | cons c r => simp
    rw [hr]
    refine Ev.congr (f := fun k => spec_l1Read.j0 k s true) (fun k => ?_) (Ev.step (f := fun _ => some (-1 : Int)) (fun k => ?_) (Ev.now _))
    · unfold spec_l1Read.f
      rw [l1In_no (by omega), Option.bind_some, if_ff]
    · simp only [spec_l1Read.j0]; rw [if_pos trivial]
theorem l1Split_go (s : ByteArray) (c : UInt8) (hs : s.data.toList.length ≤ 1000000) (d : Nat) : ∀ (i fr : Nat) (out : List ByteArray), i + d = s.data.toList.length → fr ≤ i → out.length ≤ i → c ∉ (s.data.toList.drop fr).take (i - fr) →
    ∃ ws : List ByteArray, ws.map (·.data.toList) = Hand.cutAt c (s.data.toList.drop fr) ∧ Ev (fun k => spec_l1Split.l0 k s (c.toNat : Int) out (fr : Int) (i : Int)) (out ++ ws) := by
  have hsz := Go.Lib.size_eq s
  induction d with
  | zero =>
    intro i fr out hi hf ho hn
    have e : (s.data.toList.drop fr).take (i - fr) = s.data.toList.drop fr := List.take_of_length_le (by rw [List.length_drop]; omega)
    rw [e] at hn
    refine ⟨[s.extract fr s.size], ?_, Ev.step (f := fun _ => some (out ++ [s.extract fr s.size])) (fun k => ?_) (Ev.now _)⟩
    · rw [List.map_cons, List.map_nil, Go.Lib.extract_to_end, Hand.cutAt_last c _ hn]
    · simp only [spec_l1Split.l0]
      rw [if_neg (by omega), if_pos (by omega), if_pos (by omega), if_pos (by omega), Int.toNat_natCast]
  | succ d ih =>
    intro i fr out hi hf ho hn
    have hlt : i < s.data.toList.length := by omega
    have hb := bt_data s i hlt
    have hw : wrap64 ((i : Int) + 1) = ((i + 1 : Nat) : Int) := wrap64_small (by omega) (by omega)
    by_cases hc : s.data.toList[i] = c
    · obtain ⟨ws, h1, h2⟩ := ih (i + 1) (i + 1) (out ++ [s.extract fr i]) (by omega) (Nat.le_refl _) (by rw [List.length_append, List.length_singleton]; omega) (by rw [Nat.sub_self, List.take_zero]; simp)
      refine ⟨s.extract fr i :: ws, ?_, Ev.step (f := fun k => spec_l1Split.l0 k s (c.toNat : Int) (out ++ [s.extract fr i]) ((i + 1 : Nat) : Int) ((i + 1 : Nat) : Int)) (fun k => ?_) ?_⟩
      · rw [List.map_cons, h1, Go.Lib.extract_data]
        have e : s.data.toList.drop fr = (s.data.toList.drop fr).take (i - fr) ++ c :: s.data.toList.drop (i + 1) := by
          have h3 : (s.data.toList.drop fr).drop (i - fr) = c :: s.data.toList.drop (i + 1) := by
            rw [List.drop_drop, show fr + (i - fr) = i by omega, List.drop_eq_getElem_cons hlt, hc]
          rw [← h3, List.take_append_drop]
        have h4 := Hand.cutAt_word c ((s.data.toList.drop fr).take (i - fr)) (s.data.toList.drop (i + 1)) hn
        rw [← e] at h4
        exact h4.symm
      · simp only [spec_l1Split.l0]
        rw [if_pos (by omega), if_pos (by omega), if_pos (by rw [hb, hc]), if_pos (by omega), if_pos (by omega), if_pos (by omega), if_pos (by omega), Int.toNat_natCast, Int.toNat_natCast, hw]
      · rw [List.append_assoc, List.singleton_append] at h2
        exact h2
    · obtain ⟨ws, h1, h2⟩ := ih (i + 1) fr out (by omega) (by omega) (by omega) (by
        rw [show i + 1 - fr = (i - fr) + 1 by omega, List.take_succ_eq_append_getElem (by rw [List.length_drop]; omega), List.mem_append, List.mem_singleton, List.getElem_drop]
        rintro (h | h)
        · exact hn h
        · refine hc ?_
          have e : fr + (i - fr) = i := by omega
          simp only [e] at h
          exact h.symm)
      refine ⟨ws, h1, Ev.step (f := fun k => spec_l1Split.l0 k s (c.toNat : Int) out (fr : Int) ((i + 1 : Nat) : Int)) (fun k => ?_) h2⟩
      simp only [spec_l1Split.l0]
      rw [if_pos (by omega), if_pos (by omega), if_neg (by rw [hb]; intro e; exact hc (UInt8.toNat_inj.1 (by omega))), hw]
theorem l1Split_ev (s : ByteArray) (c : UInt8) (hs : s.size ≤ 1000000) : ∃ ws : List ByteArray, ws.map (·.data.toList) = Hand.cutAt c s.data.toList ∧ Ev (fun k => spec_l1Split.f k s (c.toNat : Int)) ws := by
  have hsz := Go.Lib.size_eq s
  obtain ⟨ws, h1, h2⟩ := l1Split_go s c (by omega) s.data.toList.length 0 0 [] (by omega) (Nat.le_refl _) (Nat.zero_le _) (by simp)
  rw [List.drop_zero] at h1
  rw [List.nil_append] at h2
  exact ⟨ws, h1, h2⟩
theorem Ev.same {α : Type} {g : Nat → Option α} {a b : α} (h1 : Ev g a) (h2 : Ev g b) : a = b := by
  obtain ⟨K, h1⟩ := h1
  obtain ⟨K', h2⟩ := h2
  exact Option.some.inj ((h1 (max K K') (Nat.le_max_left ..)).symm.trans (h2 (max K K') (Nat.le_max_right ..)))

/-- A row as the reference reads it. -/
def specRow (x : List UInt8) : List Int := if x = [61] then [] else reads (Hand.cutAt 43 x)
/-- Whether the program reads a row, and the row it reads. -/
def rowOk (x : List UInt8) : Bool := decide (x = [61]) || (Hand.cutAt 43 x).all (fun y => (Hand.wordNum y).isSome)
def implRow (x : List UInt8) : List Int := if x = [61] then [] else Hand.rnVals (Hand.cutAt 43 x)
def implRes (xs : List (List UInt8)) : List (List Int) × Bool := if xs.all rowOk = true then (if Rd.told 10 1000 (xs.map implRow) = true then (xs.map implRow, true) else ([], false)) else ([], false)
theorem rdOf_nat (l : List ByteArray) (i : Nat) (h : i < l.length) : rdOf ByteArray.empty l (i : Int) = l[i] := by unfold rdOf; rw [Int.toNat_natCast, List.getD_eq_getElem?_getD, List.getElem?_eq_getElem h]; rfl
theorem impl_l0 (ws : List ByteArray) (hsz : ∀ w ∈ ws, w.size ≤ 1000000) (hl : ws.length ≤ 2000000) (d : Nat) : ∀ i : Nat, i + d = ws.length →
    Ev (fun k => impl_ParseRounds.l0 k ((ws.take i).map fun w => implRow w.data.toList) ws (ws.length : Int) (i : Int)) (if (ws.drop i).all (fun w => rowOk w.data.toList) = true then (if Rd.told 10 1000 (ws.map fun w => implRow w.data.toList) = true then (ws.map (fun w => implRow w.data.toList), true) else (([] : List (List Int)), false)) else (([] : List (List Int)), false)) := by
  induction d with
  | zero =>
    intro i hi
    rw [List.take_of_length_le (by omega), List.drop_eq_nil_of_le (by omega), List.all_nil, if_pos rfl]
    refine Ev.step (f := fun _ => _) (fun k => ?_) (Ev.now _)
    simp only [impl_ParseRounds.l0]
    rw [if_neg (by omega)]
    unfold impl_AreRounds.f
    rw [Option.bind_some]
    split <;> rfl
  | succ d ih =>
    intro i hi
    have hlt : i < ws.length := by omega
    have hw : wrap64 ((i : Int) + 1) = ((i + 1 : Nat) : Int) := wrap64_small (by omega) (by omega)
    have h1 := ih (i + 1) (by omega)
    have hz := hsz ws[i] (List.getElem_mem hlt)
    rw [List.take_succ_eq_append_getElem hlt, List.map_append, List.map_cons, List.map_nil] at h1
    rw [List.drop_eq_getElem_cons hlt, List.all_cons]
    have hlen : ((ws.take i).map fun w => implRow w.data.toList).length < 5864062014805 := by rw [List.length_map, List.length_take]; omega
    by_cases c : (ws[i]).data.toList = [61]
    · have e1 : implRow (ws[i]).data.toList = [] := if_pos c
      have e2 : rowOk (ws[i]).data.toList = true := by unfold rowOk; rw [decide_eq_true c, Bool.true_or]
      rw [e1] at h1
      rw [e2, Bool.true_and]
      refine Ev.step (f := fun k => impl_ParseRounds.l0 k ((ws.take i).map (fun w => implRow w.data.toList) ++ [([] : List Int)]) ws (ws.length : Int) ((i + 1 : Nat) : Int)) (fun k => ?_) h1
      simp only [impl_ParseRounds.l0]
      rw [if_pos (by omega), if_pos (by omega), if_pos (by omega), rdOf_nat ws i hlt, if_pos (by rw [Go.Lib.toList_data]; exact c), if_pos hlen, hw]
    · have e1 : implRow (ws[i]).data.toList = Hand.rnVals (Hand.cutAt 43 (ws[i]).data.toList) := if_neg c
      have e2 : rowOk (ws[i]).data.toList = (Hand.cutAt 43 (ws[i]).data.toList).all (fun y => (Hand.wordNum y).isSome) := by unfold rowOk; rw [decide_eq_false c, Bool.false_or]
      rw [e1] at h1
      rw [e2]
      cases ha : (Hand.cutAt 43 (ws[i]).data.toList).all (fun y => (Hand.wordNum y).isSome) with
      | true =>
        have hr : Hand.rnRes (Hand.cutAt 43 (ws[i]).data.toList) = (Hand.rnVals (Hand.cutAt 43 (ws[i]).data.toList), true) := by unfold Hand.rnRes; rw [if_pos ha]
        rw [Bool.true_and]
        refine Ev.step (f := fun k => impl_ParseRounds.l0 k ((ws.take i).map (fun w => implRow w.data.toList) ++ [Hand.rnVals (Hand.cutAt 43 (ws[i]).data.toList)]) ws (ws.length : Int) ((i + 1 : Nat) : Int)) (fun k => ?_) h1
        simp only [impl_ParseRounds.l0]
        rw [if_pos (by omega), if_pos (by omega), if_pos (by omega), rdOf_nat ws i hlt, if_neg (by rw [Go.Lib.toList_data]; exact c), readNumbers_some _ hz 43, Option.bind_some, hr, if_pos rfl, if_pos hlen, hw]
      | false =>
        have hr : Hand.rnRes (Hand.cutAt 43 (ws[i]).data.toList) = ([], false) := by unfold Hand.rnRes; rw [if_neg (by rw [ha]; decide)]
        rw [Bool.false_and, if_ff]
        refine Ev.step (f := fun _ => some (([] : List (List Int)), false)) (fun k => ?_) (Ev.now _)
        simp only [impl_ParseRounds.l0]
        rw [if_pos (by omega), if_pos (by omega), if_pos (by omega), rdOf_nat ws i hlt, if_neg (by rw [Go.Lib.toList_data]; exact c), readNumbers_some _ hz 43, Option.bind_some, hr, if_ff]
theorem impl_words (ws : List ByteArray) (xs : List (List UInt8)) (hx : ws.map (·.data.toList) = xs) (hsz : ∀ x ∈ xs, x.length ≤ 1000000) (hl : xs.length ≤ 2000000) : Ev (fun k => impl_ParseRounds.l0 k [] ws (ws.length : Int) 0) (implRes xs) := by
  subst hx
  have h1 := impl_l0 ws (fun w hw => by rw [Go.Lib.size_eq]; exact hsz _ (List.mem_map.2 ⟨w, hw, rfl⟩)) (by rw [List.length_map] at hl; exact hl) ws.length 0 (by omega)
  rw [List.take_zero, List.map_nil, List.drop_zero] at h1
  unfold implRes
  rw [List.all_map, List.map_map]
  exact h1
theorem spec_l1 (s : ByteArray) (out : List (List Int)) (ho : out.length < 5864062014805) (ws : List ByteArray) (n i : Int) (ts : List ByteArray) (hl : ts.length ≤ 1000001) (r : List (List Int) × Bool) (h : Ev (fun k => spec_ParseRounds.l0 k s (out ++ [ts.map fun w => Hand.readNum w.data.toList]) ws n (wrap64 (i + 1))) r) (d : Nat) : ∀ j : Nat, j + d = ts.length →
    Ev (fun k => spec_ParseRounds.l1 k s out ((ts.take j).map fun w => Hand.readNum w.data.toList) ws n i ts (ts.length : Int) (j : Int)) r := by
  induction d with
  | zero =>
    intro j hj
    rw [List.take_of_length_le (by omega)]
    refine Ev.step (f := fun k => spec_ParseRounds.l0 k s (out ++ [ts.map fun w => Hand.readNum w.data.toList]) ws n (wrap64 (i + 1))) (fun k => ?_) h
    simp only [spec_ParseRounds.l1]
    rw [if_neg (by omega), if_pos ho]
  | succ d ih =>
    intro j hj
    have hlt : j < ts.length := by omega
    have hw : wrap64 ((j : Int) + 1) = ((j + 1 : Nat) : Int) := wrap64_small (by omega) (by omega)
    have h1 := ih (j + 1) (by omega)
    rw [List.take_succ_eq_append_getElem hlt, List.map_append, List.map_cons, List.map_nil] at h1
    refine Ev.step (f := fun k => (spec_l1Read.f k ts[j]).bind fun t137 => (if ((ts.take j).map fun w => Hand.readNum w.data.toList).length < 17592186044416 then (spec_ParseRounds.l1 k s out (((ts.take j).map fun w => Hand.readNum w.data.toList) ++ [t137]) ws n i ts (ts.length : Int) ((j + 1 : Nat) : Int)) else (none))) (fun k => ?_) (Ev.bind (l1Read_ev ts[j]) (Ev.congr (fun k => if_pos (by rw [List.length_map, List.length_take]; omega)) h1))
    simp only [spec_ParseRounds.l1]
    rw [if_pos (by omega), if_pos (by omega), if_pos (by omega), rdOf_nat ts j hlt, hw]
theorem spec_l0 (s : ByteArray) (ws : List ByteArray) (hsz : ∀ w ∈ ws, w.size ≤ 1000000) (hl : ws.length ≤ 1000001) (r : List (List Int) × Bool) (h : Ev (fun k => spec_ParseRounds.j2 k s (ws.map fun w => specRow w.data.toList)) r) (d : Nat) : ∀ i : Nat, i + d = ws.length →
    Ev (fun k => spec_ParseRounds.l0 k s ((ws.take i).map fun w => specRow w.data.toList) ws (ws.length : Int) (i : Int)) r := by
  induction d with
  | zero =>
    intro i hi
    rw [List.take_of_length_le (by omega)]
    refine Ev.step (f := fun k => spec_ParseRounds.j2 k s (ws.map fun w => specRow w.data.toList)) (fun k => ?_) h
    simp only [spec_ParseRounds.l0]
    rw [if_neg (by omega)]
  | succ d ih =>
    intro i hi
    have hlt : i < ws.length := by omega
    have hw : wrap64 ((i : Int) + 1) = ((i + 1 : Nat) : Int) := wrap64_small (by omega) (by omega)
    have h1 := ih (i + 1) (by omega)
    have hz := hsz ws[i] (List.getElem_mem hlt)
    rw [List.take_succ_eq_append_getElem hlt, List.map_append, List.map_cons, List.map_nil] at h1
    have hlen : ((ws.take i).map fun w => specRow w.data.toList).length < 5864062014805 := by rw [List.length_map, List.length_take]; omega
    by_cases c : (ws[i]).data.toList = [61]
    · have e1 : specRow (ws[i]).data.toList = [] := if_pos c
      rw [e1] at h1
      refine Ev.step (f := fun k => spec_ParseRounds.l0 k s ((ws.take i).map (fun w => specRow w.data.toList) ++ [([] : List Int)]) ws (ws.length : Int) ((i + 1 : Nat) : Int)) (fun k => ?_) h1
      simp only [spec_ParseRounds.l0]
      rw [if_pos (by omega), if_pos (by omega), if_pos (by omega), rdOf_nat ws i hlt, if_pos (by rw [Go.Lib.toList_data]; exact c), if_pos hlen, hw]
    · obtain ⟨ts, h2, h3⟩ := l1Split_ev ws[i] 43 hz
      have h43 : ((43 : UInt8).toNat : Int) = 43 := rfl
      rw [h43] at h3
      have e1 : specRow (ws[i]).data.toList = ts.map fun w => Hand.readNum w.data.toList := by
        unfold specRow reads
        rw [if_neg c, ← h2, List.map_map]
        rfl
      rw [e1, ← hw] at h1
      have htl : ts.length ≤ 1000001 := by
        have e2 := congrArg List.length h2
        rw [List.length_map, Hand.cutAt_len] at e2
        have : List.count 43 (ws[i]).data.toList ≤ (ws[i]).data.toList.length := List.count_le_length
        rw [Go.Lib.size_eq] at hz
        omega
      have h4 := spec_l1 s _ hlen ws (ws.length : Int) (i : Int) ts htl r h1 ts.length 0 (by omega)
      rw [List.take_zero, List.map_nil] at h4
      refine Ev.step (f := fun k => (spec_l1Split.f k ws[i] 43).bind fun t133 => (spec_ParseRounds.l1 k s ((ws.take i).map fun w => specRow w.data.toList) ([] : List Int) ws (ws.length : Int) (i : Int) t133 (t133.length : Int) 0)) (fun k => ?_) (Ev.bind h3 h4)
      simp only [spec_ParseRounds.l0]
      rw [if_pos (by omega), if_pos (by omega), if_pos (by omega), rdOf_nat ws i hlt, if_neg (by rw [Go.Lib.toList_data]; exact c)]
theorem told_inn {ls : List (List Int)} (ht : Rd.told 10 1000 ls = true) : ∀ x ∈ ls, x.length ≤ 10 ∧ ∀ v ∈ x, 1 ≤ v ∧ v ≤ 1000 := told_rows ht
/-- A row whose numbers are floors: its text, and what the program reads. -/
theorem specRow_text (x : List UInt8) (h : ∀ v ∈ specRow x, 1 ≤ v ∧ v ≤ 1000) : rword (specRow x) = x ∧ rowOk x = true ∧ implRow x = specRow x := by
  by_cases c : x = [61]
  · have e1 : specRow x = [] := if_pos c
    have e2 : implRow x = [] := if_pos c
    rw [e1, e2]
    refine ⟨?_, by unfold rowOk; rw [decide_eq_true c, Bool.true_or], rfl⟩
    rw [c]; rfl
  · have e1 : specRow x = reads (Hand.cutAt 43 x) := if_neg c
    have e2 : implRow x = Hand.rnVals (Hand.cutAt 43 x) := if_neg c
    rw [e1] at h
    rw [e1, e2]
    have hne : (reads (Hand.cutAt 43 x)).length ≠ 0 := by
      rw [reads_len, Hand.cutAt_len]; omega
    have hrn := reads_words (Hand.cutAt 43 x) fun y hy => by have := h (Hand.readNum y) (List.mem_map.2 ⟨y, hy, rfl⟩); omega
    refine ⟨?_, ?_, ?_⟩
    · unfold rword
      rw [if_neg hne, reads_text _ (fun v hv => by have := h v hv; omega), Hand.cutAt_join]
    · unfold rowOk
      unfold Hand.rnRes at hrn
      split at hrn
      · rename_i hh; rw [hh, Bool.or_true]
      · exact absurd (congrArg Prod.snd hrn) (by simp)
    · unfold Hand.rnRes at hrn
      split at hrn
      · exact congrArg Prod.fst hrn
      · exact absurd (congrArg Prod.snd hrn) (by simp)
theorem implRow_spec (x : List UInt8) (ho : rowOk x = true) (h : ∀ v ∈ implRow x, 1 ≤ v ∧ v ≤ 1000) : specRow x = implRow x := by
  by_cases c : x = [61]
  · exact (if_pos c : specRow x = []).trans (if_pos c : implRow x = []).symm
  · have e2 : implRow x = Hand.rnVals (Hand.cutAt 43 x) := if_neg c
    rw [e2] at h
    rw [e2, show specRow x = reads (Hand.cutAt 43 x) from if_neg c]
    refine vals_reads _ (fun y hy => ?_) fun v hv => by have := h v hv; omega
    unfold rowOk at ho
    rw [decide_eq_false c, Bool.false_or] at ho
    exact Option.isSome_iff_exists.1 (List.all_eq_true.1 ho y hy)
theorem rtext_of (xs : List (List UInt8)) (h : Rd.told 10 1000 (xs.map specRow) = true) : rtext (xs.map specRow) = Go.Lib.join xs [47] := by
  unfold rtext
  rw [List.map_map]
  congr 1
  refine (List.map_congr_left fun x hx => ?_).trans (List.map_id xs)
  exact (specRow_text x fun v hv => (told_inn h _ (List.mem_map.2 ⟨x, hx, rfl⟩)).2 v hv).1
theorem implRes_eq (xs : List (List UInt8)) : implRes xs = if Rd.told 10 1000 (xs.map specRow) = true then (xs.map specRow, true) else ([], false) := by
  unfold implRes
  by_cases h : Rd.told 10 1000 (xs.map specRow) = true
  · have h1 := fun x (hx : x ∈ xs) => specRow_text x fun v hv => (told_inn h _ (List.mem_map.2 ⟨x, hx, rfl⟩)).2 v hv
    have h2 : xs.map implRow = xs.map specRow := List.map_congr_left fun x hx => (h1 x hx).2.2
    rw [if_pos (List.all_eq_true.2 fun x hx => (h1 x hx).2.1), h2]
  · rw [if_neg h]
    split
    · rename_i ha
      split
      · rename_i ht
        have h2 : xs.map specRow = xs.map implRow := List.map_congr_left fun x hx => implRow_spec x (List.all_eq_true.1 ha x hx) fun v hv => (told_inn ht _ (List.mem_map.2 ⟨x, hx, rfl⟩)).2 v hv
        rw [h2] at h
        exact absurd ht h
      · rfl
    · rfl
theorem told_len {ls : List (List Int)} (h : ¬ ls.length ≤ 20) : Rd.told 10 1000 ls = false := by
  cases ht : Rd.told 10 1000 ls with
  | true => exact absurd (told_parts ht).2.2.1 h
  | false => rfl
theorem told_size (xs : List (List UInt8)) (h : Rd.told 10 1000 (xs.map specRow) = true) : (Go.Lib.join xs [47]).length ≤ 1100 := by
  have h3 := (told_parts h).2.2.1
  rw [List.length_map] at h3
  have h1 := join_le xs 50 (fun x hx => ?_) 47
  · omega
  · have h4 := told_inn h _ (List.mem_map.2 ⟨x, hx, rfl⟩)
    by_cases c : x = [61]
    · rw [c]; simp
    · have e1 : specRow x = reads (Hand.cutAt 43 x) := if_neg c
      rw [e1, reads_len] at h4
      have h5 := join_le (Hand.cutAt 43 x) 4 (fun y hy => ?_) 43
      · rw [Hand.cutAt_join] at h5; omega
      · have := h4.2 (Hand.readNum y) (List.mem_map.2 ⟨y, hy, rfl⟩)
        exact word_le y (by omega) 4 (by omega) (by omega)
theorem splitK_le (c : UInt8) : ∀ (k : Nat) (s : List UInt8), ∀ x ∈ Go.Lib.splitK [c] 0 k s, x.length ≤ s.length := by
  intro k
  induction k with
  | zero => intro s x hx; unfold Go.Lib.splitK at hx; rw [List.mem_singleton] at hx; subst hx; exact Nat.le_refl _
  | succ k ih =>
    intro s x hx
    unfold Go.Lib.splitK at hx
    split at hx
    · rw [List.mem_singleton] at hx; subst hx; exact Nat.le_refl _
    · rcases List.mem_cons.1 hx with rfl | h
      · rw [List.length_take]; omega
      · have := ih _ x h
        rw [List.length_drop] at this
        omega
theorem j2_ev (s : ByteArray) (xs : List (List UInt8)) (hj : Go.Lib.join xs [47] = s.data.toList) (hl : xs.length ≤ 1000001) (hx : ∀ x ∈ xs, x.length ≤ 1000000) : Ev (fun k => spec_ParseRounds.j2 k s (xs.map specRow)) (if Rd.told 10 1000 (xs.map specRow) = true then (xs.map specRow, true) else ([], false)) := by
  have h1 := roTold_ev 10 1000 (xs.map specRow) (by rw [List.length_map]; omega) fun y hy => by
    obtain ⟨x, hx2, rfl⟩ := List.mem_map.1 hy
    have := hx x hx2
    unfold specRow
    split
    · simp
    · rw [reads_len, Hand.cutAt_len]
      have : List.count 43 x ≤ x.length := List.count_le_length
      omega
  refine Ev.step (f := fun k => (spec_roTold.f k 10 1000 (xs.map specRow)).bind fun t144 => (if t144 = true then ((spec_roText.f k (xs.map specRow)).bind fun t145 => (if t145.toList = s.toList then (some (xs.map specRow, true)) else (some (([] : List (List Int)), false)))) else (some (([] : List (List Int)), false)))) (fun k => rfl) (Ev.bind h1 ?_)
  cases ht : Rd.told 10 1000 (xs.map specRow) with
  | false => rw [if_ff]; exact Ev.congr (fun k => if_ff _ _) (Ev.now _)
  | true =>
    rw [if_pos rfl]
    refine Ev.congr (fun k => if_pos rfl) ?_
    have h3 := (told_parts ht).2.2.1
    have h2 := roText_go (xs.map specRow) h3 (told_rows ht) (xs.map specRow).length 0 (by omega) (by rw [List.take_zero]; exact Nat.zero_le _)
    rw [List.take_zero, rtext_of xs ht, hj] at h2
    refine Ev.bind (a := (⟨s.data.toList.toArray⟩ : ByteArray)) (Ev.congr (f := fun k => spec_roText.l0 k (⟨(rtext []).toArray⟩ : ByteArray) (xs.map specRow) ((xs.map specRow).length : Int) ((0 : Nat) : Int)) (fun k => by unfold spec_roText.f; rfl) h2) (Ev.congr (fun k => if_pos ?_) (Ev.now _))
    rw [Go.Lib.toList_data]
theorem rounds_both (s : ByteArray) (hs : s.size ≤ 1000000) : ∃ r : List (List Int) × Bool, (r.1.length ≤ 1000 ∧ r.1.all (fun x => decide (x.length ≤ 100)) = true) ∧ Ev (fun k => spec_ParseRounds.f k s) r ∧ Ev (fun k => impl_ParseRounds.f k s) r := by
  have hsz := Go.Lib.size_eq s
  by_cases he : s.data.toList = []
  · refine ⟨([], true), ⟨by simp, rfl⟩, ?_, ?_⟩
    · have h0 : s.size = 0 := by rw [hsz, he]; rfl
      have h1 := j2_ev s [] (by rw [he]; rfl) (by simp) (by simp)
      unfold spec_ParseRounds.f
      refine Ev.congr (fun k => if_neg (by omega)) (Ev.congr (fun k => if_neg (by omega)) ?_)
      exact h1
    · unfold impl_ParseRounds.f
      refine Ev.congr (fun k => ?_) (Ev.now _)
      rw [Option.bind_some, if_pos (by rw [Go.Lib.toList_data]; exact he)]
  · have hpos : 0 < s.data.toList.length := by
      cases h : s.data.toList with
      | nil => exact absurd h he
      | cons a r => simp
    have hjoin := Hand.cutAt_join 47 s.data.toList
    have hcl := Hand.cutAt_len 47 s.data.toList
    have hcnt : List.count 47 s.data.toList ≤ s.data.toList.length := List.count_le_length
    have hxl : (Hand.cutAt 47 s.data.toList).length ≤ 1000001 := by omega
    have hxs : ∀ x ∈ Hand.cutAt 47 s.data.toList, x.length ≤ 1000000 := fun x hx => by have := Hand.cutAt_le 47 _ x hx; omega
    have hj2 := j2_ev s _ hjoin hxl hxs
    have hbig : 1100 < s.size → Rd.told 10 1000 ((Hand.cutAt 47 s.data.toList).map specRow) = false := by
      intro hb
      cases ht : Rd.told 10 1000 ((Hand.cutAt 47 s.data.toList).map specRow) with
      | false => rfl
      | true =>
        have := told_size _ ht
        rw [hjoin] at this
        omega
    refine ⟨if Rd.told 10 1000 ((Hand.cutAt 47 s.data.toList).map specRow) = true then ((Hand.cutAt 47 s.data.toList).map specRow, true) else ([], false), ?_, ?_, ?_⟩
    · split
      · rename_i ht
        have h3 := (told_parts ht).2.2.1
        exact ⟨Nat.le_trans h3 (by decide), List.all_eq_true.2 fun x hx => decide_eq_true (by have := (told_inn ht x hx).1; omega)⟩
      · exact ⟨by simp, rfl⟩
    · unfold spec_ParseRounds.f
      by_cases hb : 1100 < s.size
      · rw [hbig hb, if_ff]
        exact Ev.congr (fun k => if_pos (by omega)) (Ev.now _)
      · refine Ev.congr (fun k => if_neg (by omega)) (Ev.congr (fun k => if_pos (by omega)) ?_)
        obtain ⟨ws, hws, hsp⟩ := l1Split_ev s 47 hs
        have h47 : ((47 : UInt8).toNat : Int) = 47 := rfl
        rw [h47] at hsp
        have hR : (ws.map fun w => specRow w.data.toList) = (Hand.cutAt 47 s.data.toList).map specRow := by rw [← hws, List.map_map]; rfl
        rw [← hR] at hj2
        have hwl : ws.length ≤ 1000001 := by rw [← hws, List.length_map] at hxl; exact hxl
        have h1 := spec_l0 s ws (fun w hw => by rw [Go.Lib.size_eq]; exact hxs _ (by rw [← hws]; exact List.mem_map.2 ⟨w, hw, rfl⟩)) hwl _ hj2 ws.length 0 (by omega)
        rw [List.take_zero, List.map_nil, hR] at h1
        exact Ev.bind hsp h1
    · unfold impl_ParseRounds.f
      have hS : strings_SplitN.f s (⟨#[47]⟩ : ByteArray) 22 = some (Go.Lib.splitB ⟨#[47]⟩ 0 (min 22 (s.size + 1) - 1) s) := by
        unfold strings_SplitN.f; rw [if_pos ⟨hs, rfl, rfl⟩]
      have hdat : (Go.Lib.splitB ⟨#[47]⟩ 0 (min 22 (s.size + 1) - 1) s).map (·.data.toList) = Go.Lib.splitK [47] 0 (min 22 (s.size + 1) - 1) s.data.toList := Go.Lib.splitB_data ..
      have hmain : implRes (Go.Lib.splitK [47] 0 (min 22 (s.size + 1) - 1) s.data.toList) = if Rd.told 10 1000 ((Hand.cutAt 47 s.data.toList).map specRow) = true then ((Hand.cutAt 47 s.data.toList).map specRow, true) else ([], false) := by
        by_cases hc : List.count 47 s.data.toList ≤ 21
        · rw [Hand.splitK_cut 47 _ s.data.toList (Nat.le_refl _) _ (by omega), implRes_eq]
        · have hk : min 22 (s.size + 1) - 1 = 21 := by omega
          have hlen := Hand.splitK_len 47 21 s.data.toList (by omega)
          rw [hk, implRes_eq, told_len (by rw [List.length_map, hlen]; omega), told_len (by rw [List.length_map, hcl]; omega), if_ff, if_ff]
      rw [← hmain]
      refine Ev.congr (fun k => ?_) (impl_words (Go.Lib.splitB ⟨#[47]⟩ 0 (min 22 (s.size + 1) - 1) s) _ hdat (fun x hx => by have := splitK_le 47 _ _ x hx; omega) ?_)
      · rw [Option.bind_some, if_neg (by rw [Go.Lib.toList_data]; exact he), hS, Option.bind_some]
      · by_cases hc : List.count 47 s.data.toList ≤ 21
        · rw [Hand.splitK_cut 47 _ s.data.toList (Nat.le_refl _) _ (by omega)]; omega
        · have hk : min 22 (s.size + 1) - 1 = 21 := by omega
          rw [hk, Hand.splitK_len 47 21 s.data.toList (by omega)]; omega
theorem FnExactParseRounds : ∀ (a0 : ByteArray), ∃ k, laws_FnExactParseRounds.f k a0 = some true := by
  intro a0
  apply Ev.rounds
  unfold laws_FnExactParseRounds.f
  by_cases h : (a0.size : Int) > 1000000
  · exact Ev.congr (fun k => if_pos h) (Ev.now _)
  · refine Ev.congr (fun k => if_neg h) ?_
    obtain ⟨r, hr, hs, hi⟩ := rounds_both a0 (by omega)
    exact Ev.bind hs (Ev.bind hi (Ev.congr (fun k => if_pos ⟨⟨rfl, rfl⟩, hr⟩) (Ev.now _)))

end Go.Proofs.YtbgmhdlmhncdcaaDoor.Pure
