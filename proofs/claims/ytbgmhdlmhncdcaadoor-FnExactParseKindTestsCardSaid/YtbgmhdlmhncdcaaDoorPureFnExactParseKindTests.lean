/- The program's ParseKindTests answers as the reference's does, in memory of its own, for every text; no conditions. -/
import Derived.Test.YtbgmhdlmhncdcaaDoorQFnExactParseKindTestsx5
namespace Go.Proofs.YtbgmhdlmhncdcaaDoor.Pure
open Go.RowKit Go.Proofs.YtbgmhdlmhncdcaaDoor.QFnExactParseKindTests Go.Proofs.YtbgmhdlmhncdcaaDoorW.PrintWords Go.Proofs.YtbgmhdlmhncdcaaDoorW.PrintLast
set_option linter.unusedVariables false

theorem wrap64_small {x : Int} (h0 : -9223372036854775808 ≤ x) (h1 : x < 9223372036854775808) : wrap64 x = x := by
  unfold wrap64; omega
theorem l1In_some (a b c : Int) : spec_l1In.f a b c = some (decide (b ≤ a ∧ a ≤ c)) := by
  unfold spec_l1In.f
  by_cases h : a ≥ b
  · rw [if_pos h]; congr 1; rw [Bool.eq_iff_iff]; simp; omega
  · rw [if_neg h]; congr 1; symm; rw [decide_eq_false_iff_not]; omega
theorem l1In_yes {a b c : Int} (h : b ≤ a ∧ a ≤ c) : spec_l1In.f a b c = some true := by rw [l1In_some, decide_eq_true h]
theorem l1In_no {a b c : Int} (h : ¬ (b ≤ a ∧ a ≤ c)) : spec_l1In.f a b c = some false := by rw [l1In_some, decide_eq_false h]
theorem if_ff {α : Type} (x y : α) : (if false = true then x else y) = y := if_neg (by decide)

theorem inn_dec (a b c : Int) : Hand.inn a b c = decide (b ≤ a ∧ a ≤ c) := by unfold Hand.inn; rw [Bool.decide_and]
theorem inn_some (a b c : Int) : spec_l1In.f a b c = some (Hand.inn a b c) := by rw [l1In_some, inn_dec]
theorem rd_nat (l : List Int) (i : Nat) (h : i < l.length) : rd l (i : Int) = l[i] := by unfold rd; simp [h]

theorem rd81_nat (l : List S81) (i : Nat) (h : i < l.length) : rd_T81 l (i : Int) = l[i] := by unfold rd_T81; simp [h]
theorem kiTests_go (l : List S81) (b : Int) (hl : l.length < 1000000000000) (d : Nat) : ∀ (i : Nat), i + d = l.length → Ev (fun k => spec_kiTests.l0 k b l (l.length : Int) (i : Int)) (!((l.drop i).any fun x => !(Hand.inn x.f1 1 b))) := by
  induction d with
  | zero =>
    intro i hi
    refine Ev.step (f := fun _ => some true) (fun k => ?_) ?_
    · simp only [spec_kiTests.l0]; rw [if_neg (by omega)]
    · rw [List.drop_eq_nil_of_le (by omega)]; exact Ev.now _
  | succ d ih =>
    intro i hi
    have hlt : i < l.length := by omega
    have hw : wrap64 ((i : Int) + 1) = ((i + 1 : Nat) : Int) := wrap64_small (by omega) (by omega)
    rw [List.drop_eq_getElem_cons hlt, List.any_cons]
    cases hc : Hand.inn l[i].f1 1 b with
    | true =>
      refine Ev.step (f := fun k => spec_kiTests.l0 k b l (l.length : Int) ((i + 1 : Nat) : Int)) (fun k => ?_) (by rw [Bool.not_true, Bool.false_or]; exact ih (i + 1) (by omega))
      simp only [spec_kiTests.l0]
      rw [if_pos (by omega), if_pos (by omega), if_pos (by omega), rd81_nat l i hlt, inn_some, hc, Option.bind_some, if_pos rfl, hw]
    | false =>
      refine Ev.step (f := fun _ => some false) (fun k => ?_) (by rw [Bool.not_false, Bool.true_or]; exact Ev.now _)
      simp only [spec_kiTests.l0]
      rw [if_pos (by omega), if_pos (by omega), if_pos (by omega), rd81_nat l i hlt, inn_some, hc, Option.bind_some, if_ff]
def tup (x : S81) : Bool × Int × Bool := (x.f0, x.f1, x.f2)
theorem kiFloors_some (a : Int) : spec_kiFloors.f a = some (Hand.inn a 0 6) := by unfold spec_kiFloors.f; rw [inn_some, Option.bind_some]
theorem kiTests_ev (b : Int) (l : List S81) (hl : l.length < 1000000000000) : Ev (fun k => spec_kiTests.f k b l) (Hand.aKind b (l.map tup)) := by
  unfold Hand.aKind
  rw [List.length_map, List.any_map]
  cases hc : Hand.inn b 0 6 with
  | true =>
    by_cases h : l.length ≤ 40
    · rw [decide_eq_true h, Bool.and_true, Bool.true_and]
      refine Ev.congr (f := fun k => spec_kiTests.j0 k b l false) (fun k => ?_) (Ev.step (f := fun k => spec_kiTests.l0 k b l (l.length : Int) ((0 : Nat) : Int)) (fun k => ?_) (kiTests_go l b hl l.length 0 (by omega)))
      · unfold spec_kiTests.f
        rw [kiFloors_some, hc, Option.bind_some, if_pos rfl, show decide ((l.length : Int) > 40) = false from decide_eq_false (by omega)]
      · simp only [spec_kiTests.j0]; rw [if_ff]; rfl
    · rw [decide_eq_false h, Bool.and_false, Bool.false_and]
      refine Ev.congr (f := fun k => spec_kiTests.j0 k b l true) (fun k => ?_) (Ev.step (f := fun _ => some false) (fun k => ?_) (Ev.now _))
      · unfold spec_kiTests.f
        rw [kiFloors_some, hc, Option.bind_some, if_pos rfl, show decide ((l.length : Int) > 40) = true from decide_eq_true (by omega)]
      · simp only [spec_kiTests.j0]; exact if_pos trivial
  | false =>
    rw [Bool.false_and, Bool.false_and]
    refine Ev.congr (f := fun k => spec_kiTests.j0 k b l true) (fun k => ?_) (Ev.step (f := fun _ => some false) (fun k => ?_) (Ev.now _))
    · unfold spec_kiTests.f
      rw [kiFloors_some, hc, Option.bind_some, if_ff]
    · simp only [spec_kiTests.j0]; exact if_pos trivial

theorem bapp (a b : List UInt8) : (⟨a.toArray⟩ ++ ⟨b.toArray⟩ : ByteArray) = ⟨(a ++ b).toArray⟩ := by
  apply ByteArray.ext
  rw [ByteArray.data_append]
  simp
theorem bsize (a : List UInt8) : (⟨a.toArray⟩ : ByteArray).size = a.length := by simp [ByteArray.size]
def numB (n : Nat) : ByteArray := ⟨(Go.Lib.decDigits n).toArray⟩
theorem digs_le_ (n : Nat) : (Go.Lib.decDigits n).length ≤ n + 1 := by
  induction n using Nat.strongRecOn with
  | _ n ih =>
    rw [Go.Lib.decDigits]
    split
    · simp
    · have := ih (n / 10) (by omega)
      rw [List.length_append, List.length_singleton]
      omega
theorem numB_size (n : Nat) : (numB n).size ≤ n + 1 := by unfold numB; rw [bsize]; exact digs_le_ n
theorem one_num (d : Nat) (h : d < 10) : strOfNums ([wrap64 (48 + (d : Int)) % 256] : List Int) = ⟨([UInt8.ofNat (48 + d)] : List UInt8).toArray⟩ := by
  have e : wrap64 (48 + (d : Int)) % 256 = ((48 + d : Nat) : Int) := by rw [wrap64_small (by omega) (by omega)]; omega
  rw [e]
  rfl
theorem l1Num_ev (n : Nat) (hn : n ≤ 1000000000000000) : Ev (fun k => spec_l1Num.f k (n : Int)) (numB n) := by
  induction n using Nat.strongRecOn with
  | _ n ih =>
    by_cases h : n < 10
    · refine Ev.step (f := fun _ => some (numB n)) (fun k => ?_) (Ev.now _)
      simp only [spec_l1Num.f]
      rw [if_pos (by omega), one_num n h]
      unfold numB
      rw [Go.Lib.decDigits, dif_pos h]
    · have h1 := ih (n / 10) (by omega) (by omega)
      have hd : wrap64 (Int.tdiv (n : Int) 10) = ((n / 10 : Nat) : Int) := by rw [Int.tdiv_eq_ediv_of_nonneg (by omega), wrap64_small (by omega) (by omega)]; omega
      have hm : Int.tmod (n : Int) 10 = ((n % 10 : Nat) : Int) := by rw [Int.tmod_eq_emod_of_nonneg (by omega)]; omega
      have hs := numB_size (n / 10)
      refine Ev.step (f := fun k => (spec_l1Num.f k ((n / 10 : Nat) : Int)).bind fun t => (if t.size + 1 ≤ 9223372036854775807 then some (t ++ ⟨([UInt8.ofNat (48 + n % 10)] : List UInt8).toArray⟩) else none)) (fun k => ?_) (Ev.bind h1 ?_)
      · simp only [spec_l1Num.f]
        rw [if_neg (by omega), hd, hm]
        congr 1
        funext t
        rw [Option.bind_some, one_num _ (by omega), bsize]
        rfl
      · refine Ev.congr (fun k => if_pos (by omega)) ?_
        refine Ev.congr (f := fun _ => some (numB n)) (fun k => ?_) (Ev.now _)
        unfold numB
        rw [bapp]
        congr 2
        rw [Go.Lib.decDigits.eq_def n, dif_neg h]

theorem kiText_go (l : List S81) (h1000 : l.length ≤ 1000) (hb : ∀ (j : Nat) (h : j < (l.map tup).length), 0 ≤ (l.map tup)[j].2.1 ∧ (l.map tup)[j].2.1 ≤ 1000) (d : Nat) : ∀ i : Nat, i + d = l.length →
    Ev (fun k => spec_kiText.l0 k (⟨(Hand.kindsT ((l.map tup).take i)).toArray⟩ : ByteArray) l (l.length : Int) (i : Int)) (⟨(Hand.kindsT (l.map tup)).toArray⟩ : ByteArray) := by
  induction d with
  | zero =>
    intro i hi
    obtain rfl : i = l.length := by omega
    rw [show (l.map tup).take l.length = l.map tup from List.take_of_length_le (by rw [List.length_map]; exact Nat.le_refl _)]
    refine Ev.step (f := fun _ => some (⟨(Hand.kindsT (l.map tup)).toArray⟩ : ByteArray)) (fun k => ?_) (Ev.now _)
    simp only [spec_kiText.l0]
    rw [if_neg (by omega)]
  | succ d ih =>
    intro i hi
    have hlt : i < l.length := by omega
    have hlt2 : i < (l.map tup).length := by rw [List.length_map]; exact hlt
    have h1 := ih (i + 1) (by omega)
    have hbi := hb i hlt2
    have hl := Hand.kindsT_len (l.map tup) hb i (by omega)
    rw [Hand.kindsT_snoc _ i hlt2] at h1
    have e : (l.map tup)[i] = (l[i].f0, l[i].f1, l[i].f2) := by rw [List.getElem_map]; rfl
    rw [e] at h1 hbi
    obtain ⟨n, hn⟩ : ∃ n : Nat, l[i].f1 = (n : Int) := ⟨(l[i].f1).toNat, by have h3 := hbi.1; have h4 : 0 ≤ l[i].f1 := h3; omega⟩
    have hn2 : n ≤ 1000 := by have h3 := hbi.2; have h4 : l[i].f1 ≤ 1000 := h3; omega
    have hw : wrap64 ((i : Int) + 1) = ((i + 1 : Nat) : Int) := wrap64_small (by omega) (by omega)
    have hd := digs_le_ n
    have s1 : (⟨#[33]⟩ : ByteArray) = ⟨([33] : List UInt8).toArray⟩ := rfl
    have s2 : (⟨#[46]⟩ : ByteArray) = ⟨([46] : List UInt8).toArray⟩ := rfl
    have s3 : (⟨#[115]⟩ : ByteArray) = ⟨([115] : List UInt8).toArray⟩ := rfl
    have s4 : (⟨#[119]⟩ : ByteArray) = ⟨([119] : List UInt8).toArray⟩ := rfl
    have hnum := l1Num_ev n (by omega)
    unfold numB at hnum
    unfold Hand.kindT Hand.dropT at h1
    simp only [hn, Int.toNat_natCast] at h1
    generalize Hand.kindsT ((l.map tup).take i) = L at *
    generalize Go.Lib.decDigits n = D at *
    have key : ∀ (a b : List UInt8), a.length = 1 → b.length = 1 → Ev (fun k => spec_kiText.l0 k (⟨(L ++ (a ++ (D ++ b))).toArray⟩ : ByteArray) l (l.length : Int) ((i + 1 : Nat) : Int)) (⟨(Hand.kindsT (l.map tup)).toArray⟩ : ByteArray) →
        Ev (fun k => (spec_l1Num.f k (n : Int)).bind fun t => (if 1 + t.size ≤ 9223372036854775807 then (if ((⟨a.toArray⟩ : ByteArray) ++ t).size + 1 ≤ 9223372036854775807 then (if (⟨L.toArray⟩ : ByteArray).size + (((⟨a.toArray⟩ : ByteArray) ++ t) ++ (⟨b.toArray⟩ : ByteArray)).size ≤ 9223372036854775807 then (spec_kiText.l0 k ((⟨L.toArray⟩ : ByteArray) ++ (((⟨a.toArray⟩ : ByteArray) ++ t) ++ (⟨b.toArray⟩ : ByteArray))) l (l.length : Int) ((i + 1 : Nat) : Int)) else (none)) else (none)) else (none))) (⟨(Hand.kindsT (l.map tup)).toArray⟩ : ByteArray) := fun a b ha hb' hk => by
      refine Ev.bind hnum ?_
      refine Ev.congr (fun k => if_pos (by rw [bsize]; omega)) ?_
      rw [bapp, bapp, bapp, bsize, bsize, bsize]
      refine Ev.congr (fun k => if_pos (by rw [List.length_append]; omega)) (Ev.congr (fun k => if_pos (by rw [List.length_append, List.length_append]; omega)) ?_)
      rw [List.append_assoc a D b]
      exact hk
    cases hs : l[i].f0 with
    | true =>
      cases hq : l[i].f2 with
      | true =>
        rw [hs, hq, if_pos rfl, if_pos rfl] at h1
        refine Ev.step (fun k => ?_) (key [115] [33] rfl rfl h1)
        simp only [spec_kiText.l0]
        rw [if_pos (by omega), if_pos (by omega), if_pos (by omega), rd81_nat l i hlt, hs, hq, if_pos rfl, if_pos rfl, hn, hw]
      | false =>
        rw [hs, hq, if_pos rfl, if_neg (by decide)] at h1
        refine Ev.step (fun k => ?_) (key [115] [46] rfl rfl h1)
        simp only [spec_kiText.l0]
        rw [if_pos (by omega), if_pos (by omega), if_pos (by omega), rd81_nat l i hlt, hs, hq, if_pos rfl, if_neg (by decide), hn, hw]
    | false =>
      cases hq : l[i].f2 with
      | true =>
        rw [hs, hq, if_neg (by decide), if_pos rfl] at h1
        refine Ev.step (fun k => ?_) (key [119] [33] rfl rfl h1)
        simp only [spec_kiText.l0]
        rw [if_pos (by omega), if_pos (by omega), if_pos (by omega), rd81_nat l i hlt, hs, hq, if_neg (by decide), if_pos rfl, hn, hw]
      | false =>
        rw [hs, hq, if_neg (by decide), if_neg (by decide)] at h1
        refine Ev.step (fun k => ?_) (key [119] [46] rfl rfl h1)
        simp only [spec_kiText.l0]
        rw [if_pos (by omega), if_pos (by omega), if_pos (by omega), rd81_nat l i hlt, hs, hq, if_neg (by decide), if_neg (by decide), hn, hw]

theorem bt_data (s : ByteArray) (i : Nat) (h : i < s.data.toList.length) : bt s (i : Int) = ((s.data.toList[i]).toNat : Int) := by
  have h2 : i < s.size := by rw [Go.Lib.size_eq]; exact h
  unfold bt
  rw [dif_pos (by rw [Int.toNat_natCast]; exact h2)]
  congr 2

/-! ### the law's own reading and marking -/
theorem eqKindS_go (l : List S81) (hl : l.length < 1000000000000) (d : Nat) : ∀ i : Nat, i + d = l.length → Ev (fun k => laws_eqKindTestS.l0 k l l (i : Int)) true := by
  induction d with
  | zero =>
    intro i hi
    exact Ev.step (f := fun _ => some true) (fun k => by simp only [laws_eqKindTestS.l0]; rw [if_neg (by omega)]) (Ev.now _)
  | succ d ih =>
    intro i hi
    have hw : wrap64 ((i : Int) + 1) = ((i + 1 : Nat) : Int) := wrap64_small (by omega) (by omega)
    refine Ev.step (f := fun k => laws_eqKindTestS.l0 k l l ((i + 1 : Nat) : Int)) (fun k => ?_) (ih (i + 1) (by omega))
    simp only [laws_eqKindTestS.l0]
    rw [if_pos (by omega), if_pos (by omega), if_pos (by omega)]
    unfold laws_eqKindTest.f
    rw [if_neg (by simp), if_pos rfl, if_neg (by simp), Option.bind_some, if_pos rfl, hw]
theorem eqKindS_self (l : List S81) (hl : l.length < 1000000000000) : Ev (fun k => laws_eqKindTestS.f k l l) true :=
  Ev.congr (f := fun k => laws_eqKindTestS.l0 k l l ((0 : Nat) : Int)) (fun k => by unfold laws_eqKindTestS.f; rw [if_pos rfl]; rfl) (eqKindS_go l hl l.length 0 (by omega))
def markOf (a : Int) : S81 := ⟨(Int.tmod a 3 == 0), a + 1, (Int.tmod (a + 2) 3 == 0)⟩
def marksOf (a : Int) : Nat → List S81
  | 0 => []
  | n + 1 => markOf a :: marksOf (a + 3) n
theorem set_mid {α : Type} (A B : List α) (b v : α) : (A ++ b :: B).set A.length v = A ++ v :: B := by simp
theorem rd_mid (A B : List S81) (b : S81) : rd_T81 (A ++ b :: B) (A.length : Int) = b := by rw [rd81_nat _ _ (by simp)]; simp
theorem mark_go (B : List S81) : ∀ (A : List S81) (a : Int), 0 ≤ a → a + 3 * (B.length : Int) < 1000000000000 → A.length + B.length < 1000000000000 → Ev (fun k => laws_markKindTestS.l0 k (A ++ B) a (A.length : Int)) (a + 3 * (B.length : Int), A ++ marksOf a B.length) := by
  induction B with
  | nil =>
    intro A a h0 h1 h2
    refine Ev.step (f := fun _ => some (a, A)) (fun k => ?_) ?_
    · simp only [laws_markKindTestS.l0]; rw [List.append_nil, if_neg (by omega)]
    · rw [show (([] : List S81).length : Int) = 0 from rfl, Int.mul_zero, Int.add_zero]
      show Ev _ (a, A ++ [])
      rw [List.append_nil]
      exact Ev.now _
  | cons b B ih =>
    intro A a h0 h1 h2
    rw [List.length_cons] at h1 h2
    have hw1 : wrap64 (a + 1) = a + 1 := wrap64_small (by omega) (by omega)
    have hw2 : wrap64 (a + 1 + 1) = a + 2 := (wrap64_small (by omega) (by omega)).trans (by omega)
    have hw4 : wrap64 (a + 2 + 1) = a + 3 := (wrap64_small (by omega) (by omega)).trans (by omega)
    have hw3 : wrap64 ((A.length : Int) + 1) = ((A ++ [markOf a]).length : Int) := by rw [List.length_append, List.length_singleton, wrap64_small (by omega) (by omega)]; omega
    have h3 := ih (A ++ [markOf a]) (a + 3) (by omega) (by omega) (by rw [List.length_append, List.length_singleton]; omega)
    rw [List.append_assoc, List.append_assoc, List.singleton_append, List.singleton_append] at h3
    refine Ev.step (f := fun k => laws_markKindTestS.l0 k (A ++ markOf a :: B) (a + 3) ((A ++ [markOf a]).length : Int)) (fun k => ?_) ?_
    · simp only [laws_markKindTestS.l0]
      rw [if_pos (by rw [List.length_append, List.length_cons]; omega), if_pos (by omega), Option.bind_some, Option.bind_some, Int.toNat_natCast, set_mid, set_mid, set_mid, rd_mid, rd_mid, rd_mid, hw1, hw2, hw4, hw3]
      rfl
    · rw [List.length_cons, show a + 3 * ((B.length + 1 : Nat) : Int) = a + 3 + 3 * (B.length : Int) by omega]
      exact h3
theorem held_go (n : Nat) : ∀ (A : List S81) (a : Int), 0 ≤ a → a + 3 * (n : Int) < 1000000000000 → A.length + n < 1000000000000 → Ev (fun k => laws_heldKindTestS.l0 k (A ++ marksOf a n) a (A.length : Int)) (a + 3 * (n : Int)) := by
  induction n with
  | zero =>
    intro A a h0 h1 h2
    refine Ev.step (f := fun _ => some a) (fun k => ?_) ?_
    · simp only [laws_heldKindTestS.l0]; show (if (A.length : Int) < ((A ++ []).length : Int) then _ else _) = _; rw [List.append_nil, if_neg (by omega)]
    · rw [show a + 3 * ((0 : Nat) : Int) = a by omega]; exact Ev.now _
  | succ n ih =>
    intro A a h0 h1 h2
    have hw1 : wrap64 (a + 1) = a + 1 := wrap64_small (by omega) (by omega)
    have hw2 : wrap64 (a + 1 + 1) = a + 2 := (wrap64_small (by omega) (by omega)).trans (by omega)
    have hw4 : wrap64 (a + 2 + 1) = a + 3 := (wrap64_small (by omega) (by omega)).trans (by omega)
    have hw3 : wrap64 ((A.length : Int) + 1) = ((A ++ [markOf a]).length : Int) := by rw [List.length_append, List.length_singleton, wrap64_small (by omega) (by omega)]; omega
    have h3 := ih (A ++ [markOf a]) (a + 3) (by omega) (by omega) (by rw [List.length_append, List.length_singleton]; omega)
    rw [List.append_assoc, List.singleton_append] at h3
    refine Ev.step (f := fun k => laws_heldKindTestS.l0 k (A ++ markOf a :: marksOf (a + 3) n) (a + 3) ((A ++ [markOf a]).length : Int)) (fun k => ?_) ?_
    · simp only [laws_heldKindTestS.l0]
      show (if (A.length : Int) < ((A ++ markOf a :: marksOf (a + 3) n).length : Int) then _ else _) = _
      have e : marksOf a (n + 1) = markOf a :: marksOf (a + 3) n := rfl
      rw [e, if_pos (by rw [List.length_append, List.length_cons]; omega), if_pos (by omega), rd_mid, hw1, hw2, hw4, hw3]
      show (if ((Int.tmod a 3 == 0) != (Int.tmod a 3 == 0)) = true then _ else _) = _
      rw [if_neg (by simp)]
      show (if a + 1 = a + 1 then _ else _) = _
      rw [if_pos rfl]
      show (if ((Int.tmod (a + 2) 3 == 0) != (Int.tmod (a + 2) 3 == 0)) = true then _ else _) = _
      rw [if_neg (by simp)]
    · rw [show a + 3 * ((n + 1 : Nat) : Int) = a + 3 + 3 * (n : Int) by omega]
      exact h3
theorem mark_heldK (l : List S81) (hl : l.length < 1000000000) : ∃ r, Ev (fun k => laws_markKindTestS.f k l 101) (101 + 3 * (l.length : Int), r) ∧ Ev (fun k => laws_heldKindTestS.f k r 101) (101 + 3 * (l.length : Int)) := by
  refine ⟨marksOf 101 l.length, ?_, ?_⟩
  · have := mark_go l [] 101 (by omega) (by omega) (by simp; omega)
    exact this
  · have := held_go l.length [] 101 (by omega) (by omega) (by simp; omega)
    exact this

/-! ### texts of tests -/
def sg (q : Bool) : UInt8 := if q then 33 else 46
theorem sg_cases (q : Bool) : sg q = 33 ∨ sg q = 46 := by cases q <;> simp [sg]
def kb (x : S81) : List UInt8 := [if x.f0 then 115 else 119, UInt8.ofNat (48 + x.f1.toNat), sg x.f2]
def K (out : List S81) : List UInt8 := out.flatMap kb
theorem K_cons (x : S81) (r : List S81) : K (x :: r) = (if x.f0 then 115 else 119) :: UInt8.ofNat (48 + x.f1.toNat) :: sg x.f2 :: K r := by unfold K kb; simp
theorem K_drop (j : Nat) : ∀ out : List S81, (K out).drop (3 * j) = K (out.drop j) := by
  induction j with
  | zero => intro out; rfl
  | succ j ih =>
    intro out
    cases out with
    | nil => simp [K]
    | cons x r =>
      rw [K_cons, show 3 * (j + 1) = 3 * j + 1 + 1 + 1 by omega, List.drop_succ_cons, List.drop_succ_cons, List.drop_succ_cons, List.drop_succ_cons]
      exact ih r
theorem K_len (out : List S81) : (K out).length = 3 * out.length := by
  induction out with
  | nil => rfl
  | cons x r ih => rw [K_cons, List.length_cons, List.length_cons, List.length_cons, List.length_cons, ih]; omega
theorem valid_mem {out : List S81} (h : Hand.aKind 6 (out.map tup) = true) : out.length ≤ 40 ∧ ∀ x ∈ out, 1 ≤ x.f1 ∧ x.f1 ≤ 6 := by
  unfold Hand.aKind at h
  rw [Bool.and_eq_true, Bool.and_eq_true, decide_eq_true_eq, List.length_map] at h
  obtain ⟨⟨h1, h2⟩, h3⟩ := h
  refine ⟨h2, fun x hx => ?_⟩
  rw [Bool.not_eq_true', List.any_eq_false] at h3
  have h4 := h3 (tup x) (List.mem_map.2 ⟨x, hx, rfl⟩)
  have h5 : Hand.inn x.f1 1 6 = true := by simpa [tup] using h4
  rw [inn_dec, decide_eq_true_eq] at h5
  exact h5
theorem text_K (out : List S81) (h : ∀ x ∈ out, 1 ≤ x.f1 ∧ x.f1 ≤ 6) : Hand.kindsT (out.map tup) = K out := by
  induction out with
  | nil => rfl
  | cons x r ih =>
    have h1 := ih fun y hy => h y (List.mem_cons_of_mem _ hy)
    have h2 := h x (List.mem_cons_self ..)
    rw [K_cons, ← h1]
    unfold Hand.kindsT
    rw [List.map_cons, List.flatMap_cons]
    have hd : Go.Lib.decDigits x.f1.toNat = [UInt8.ofNat (48 + x.f1.toNat)] := Go.Lib.decDigits_one (by omega)
    show ([if x.f0 then 115 else 119] ++ (Go.Lib.decDigits x.f1.toNat ++ [if x.f2 then 33 else 46])) ++ _ = _
    rw [hd]
    rfl
theorem at_drop (l : List UInt8) (i t : Nat) (b : UInt8) (h : (l.drop i)[t]? = some b) (s : ByteArray) (hs : s.data.toList = l) : bt s ((i + t : Nat) : Int) = (b.toNat : Int) := by
  rw [List.getElem?_drop] at h
  obtain ⟨h1, h2⟩ := List.getElem?_eq_some_iff.1 h
  have h3 : i + t < s.data.toList.length := by rw [hs]; exact h1
  rw [bt_data s (i + t) h3]
  congr 2
  rw [← h2]
  simp only [hs]
theorem c0_bt (q : Bool) : ((((if q then 115 else 119 : UInt8)).toNat : Int) == 115) = q := by cases q <;> rfl
theorem sg_bt (q : Bool) : (((sg q).toNat : Int) == 33) = q := by cases q <;> rfl

/-! ### the reference -/
theorem step_facts (i S : Nat) (h : i + 3 ≤ S) (hS : S ≤ 1000) : (i : Int) < (S : Int) ∧ (0 : Int) ≤ (i : Int) ∧ wrap64 ((i : Int) + 1) = ((i + 1 : Nat) : Int) ∧ wrap64 ((i : Int) + 2) = ((i + 2 : Nat) : Int) ∧ wrap64 ((i : Int) + 3) = ((i + 3 : Nat) : Int) ∧ (0 : Int) ≤ ((i + 1 : Nat) : Int) ∧ ((i + 1 : Nat) : Int) < (S : Int) ∧ (0 : Int) ≤ ((i + 2 : Nat) : Int) ∧ ((i + 2 : Nat) : Int) < (S : Int) :=
  ⟨by omega, by omega, wrap64_small (by omega) (by omega), wrap64_small (by omega) (by omega), wrap64_small (by omega) (by omega), by omega, by omega, by omega, by omega⟩
theorem len_lt (n : Nat) (h : n ≤ 1001) : n < 5864062014805 := by omega
theorem kiText_ev (out : List S81) (hv : Hand.aKind 6 (out.map tup) = true) : Ev (fun k => spec_kiText.f k out) (⟨(Hand.kindsT (out.map tup)).toArray⟩ : ByteArray) := by
  obtain ⟨h1, h2⟩ := valid_mem hv
  have h3 : ∀ (j : Nat) (h : j < (out.map tup).length), 0 ≤ (out.map tup)[j].2.1 ∧ (out.map tup)[j].2.1 ≤ 1000 := fun j h => by
    rw [List.length_map] at h
    have h4 := h2 out[j] (List.getElem_mem h)
    rw [List.getElem_map]
    show 0 ≤ out[j].f1 ∧ out[j].f1 ≤ 1000
    omega
  exact kiText_go out (by omega) h3 out.length 0 (by omega)
theorem spec_end (s : ByteArray) (out : List S81) (hl : out.length ≤ 1001) (i : Nat) (hi : ¬ (i : Int) < (s.size : Int)) (r : List S81 × Bool) (hr : r = if Hand.aKind 6 (out.map tup) = true ∧ Hand.kindsT (out.map tup) = s.data.toList then (out, true) else ([], false)) : Ev (fun k => spec_ParseKindTests.l0 k s out (i : Int)) r := by
  have hd := kiTests_ev 6 out (by omega)
  cases hg : Hand.aKind 6 (out.map tup) with
  | false =>
    rw [hg] at hd
    rw [if_neg (fun h => by rw [hg] at h; cases h.1)] at hr
    subst hr
    refine Ev.step (f := fun k => (spec_kiTests.f k 6 out).bind fun t122 => (if t122 = true then ((spec_kiText.f k out).bind fun t123 => (if t123.toList = s.toList then (some (out, true)) else (some (([] : List (S81)), false)))) else (some (([] : List (S81)), false)))) (fun k => ?_) (Ev.bind hd (Ev.congr (fun k => if_ff _ _) (Ev.now _)))
    simp only [spec_ParseKindTests.l0]; rw [if_neg hi]
  | true =>
    rw [hg] at hd
    refine Ev.step (f := fun k => (spec_kiTests.f k 6 out).bind fun t122 => (if t122 = true then ((spec_kiText.f k out).bind fun t123 => (if t123.toList = s.toList then (some (out, true)) else (some (([] : List (S81)), false)))) else (some (([] : List (S81)), false)))) (fun k => ?_) (Ev.bind hd (Ev.congr (fun k => if_pos rfl) (Ev.bind (kiText_ev out hg) ?_)))
    · simp only [spec_ParseKindTests.l0]; rw [if_neg hi]
    · have hiff : (⟨(Hand.kindsT (out.map tup)).toArray⟩ : ByteArray).toList = s.toList ↔ Hand.kindsT (out.map tup) = s.data.toList := by rw [Go.Lib.toList_data, Go.Lib.toList_data]
      by_cases c : Hand.kindsT (out.map tup) = s.data.toList
      · rw [if_pos ⟨hg, c⟩] at hr
        subst hr
        exact Ev.congr (fun k => if_pos (hiff.2 c)) (Ev.now _)
      · rw [if_neg (fun h => c h.2)] at hr
        subst hr
        exact Ev.congr (fun k => if_neg (fun h => c (hiff.1 h))) (Ev.now _)
theorem spec_no (s : ByteArray) (hs : s.size ≤ 120) (hno : ∀ out : List S81, ¬ (Hand.aKind 6 (out.map tup) = true ∧ Hand.kindsT (out.map tup) = s.data.toList)) (d : Nat) : ∀ (i : Nat) (out : List S81), i + 3 * d = s.size → out.length ≤ i → Ev (fun k => spec_ParseKindTests.l0 k s out (i : Int)) ([], false) := by
  induction d with
  | zero => intro i out hi hl; exact spec_end s out (by omega) i (by omega) _ (by rw [if_neg (hno out)])
  | succ d ih =>
    intro i out hi hl
    have h1 := ih (i + 3) (out ++ [(⟨((bt s (i : Int)) == 115), wrap64 ((wrap64 (bt s ((i + 1 : Nat) : Int))) - 48), ((bt s ((i + 2 : Nat) : Int)) == 33)⟩ : S81)]) (by omega) (by rw [List.length_append, List.length_singleton]; omega)
    have h2 := len_lt out.length (by omega)
    have F := Aside0.mk (step_facts i s.size (by omega) (by omega))
    clear ih hi hl hs hno
    refine Ev.step (f := fun k => spec_ParseKindTests.l0 k s (out ++ [(⟨((bt s (i : Int)) == 115), wrap64 ((wrap64 (bt s ((i + 1 : Nat) : Int))) - 48), ((bt s ((i + 2 : Nat) : Int)) == 33)⟩ : S81)]) ((i + 3 : Nat) : Int)) (fun k => ?_) h1
    obtain ⟨f1, f2, f3, f4, f5, f6, f7, f8, f9⟩ := F.out
    simp only [spec_ParseKindTests.l0]
    rw [if_pos f1, if_pos f2, f3, if_pos f6, if_pos f7, f4, if_pos f8, if_pos f9, if_pos h2, f5]
theorem spec_yes (s : ByteArray) (out : List S81) (hv : Hand.aKind 6 (out.map tup) = true) (ht : Hand.kindsT (out.map tup) = s.data.toList) (d : Nat) : ∀ j : Nat, j + d = out.length → Ev (fun k => spec_ParseKindTests.l0 k s (out.take j) ((3 * j : Nat) : Int)) (out, true) := by
  obtain ⟨hl, hm⟩ := valid_mem hv
  have hK : s.data.toList = K out := by rw [← ht, text_K out hm]
  have hsz : s.size = 3 * out.length := by rw [Go.Lib.size_eq, hK, K_len]
  induction d with
  | zero =>
    intro j hj
    rw [List.take_of_length_le (by omega)]
    exact spec_end s out (by omega) (3 * j) (by omega) _ (by rw [if_pos ⟨hv, ht⟩])
  | succ d ih =>
    intro j hj
    have hlt : j < out.length := by omega
    have hmj := hm out[j] (List.getElem_mem hlt)
    have F := Aside0.mk (step_facts (3 * j) s.size (by omega) (by omega))
    have htl := len_lt (out.take j).length (by rw [List.length_take]; omega)
    have hdr : (K out).drop (3 * j) = (if out[j].f0 then 115 else 119) :: UInt8.ofNat (48 + out[j].f1.toNat) :: sg out[j].f2 :: K (out.drop (j + 1)) := by rw [K_drop, List.drop_eq_getElem_cons hlt, K_cons]
    have b0 := at_drop (K out) (3 * j) 0 _ (by rw [hdr]; rfl) s hK
    have b1 := at_drop (K out) (3 * j) 1 _ (by rw [hdr]; rfl) s hK
    have b2 := at_drop (K out) (3 * j) 2 _ (by rw [hdr]; rfl) s hK
    rw [Nat.add_zero] at b0
    have hdig := Hand.dig_nat out[j].f1.toNat (by omega)
    rw [hdig] at b1
    have HW1 := Aside0.mk (show wrap64 (((48 + out[j].f1.toNat : Nat) : Int)) = ((48 + out[j].f1.toNat : Nat) : Int) from wrap64_small (by omega) (by omega))
    have HW2 := Aside0.mk (show wrap64 (((48 + out[j].f1.toNat : Nat) : Int) - 48) = out[j].f1 from (wrap64_small (by omega) (by omega)).trans (by omega))
    have h1 := ih (j + 1) (by omega)
    rw [List.take_succ_eq_append_getElem hlt, show 3 * (j + 1) = 3 * j + 3 by omega] at h1
    refine Ev.step (f := fun k => spec_ParseKindTests.l0 k s (out.take j ++ [out[j]]) ((3 * j + 3 : Nat) : Int)) (fun k => ?_) h1
    obtain ⟨f1, f2, f3, f4, f5, f6, f7, f8, f9⟩ := F.out
    simp only [spec_ParseKindTests.l0]
    rw [if_pos f1, if_pos f2, f3, if_pos f6, if_pos f7, f4, if_pos f8, if_pos f9, if_pos htl, f5, b0, b1, b2, HW1.out, HW2.out, c0_bt, sg_bt]

/-! ### the program -/
theorem any_lt (cs : List UInt8) : ∀ l : List UInt8, Go.Lib.indexAny l cs < (l.length : Int)
  | [] => by show (-1 : Int) < 0; omega
  | b :: l => by
    have ih := any_lt cs l
    unfold Go.Lib.indexAny
    rw [List.length_cons]
    split
    · omega
    · split <;> omega
theorem any_some (s : ByteArray) (hs : s.size ≤ 1000000) : strings_IndexAny.f s (⟨#[33, 46]⟩ : ByteArray) = some (Go.Lib.indexAny s.data.toList Hand.signsL) := by
  unfold strings_IndexAny.f
  rw [if_pos ⟨hs, rfl⟩]
theorem atoi_some (s : ByteArray) (hs : s.size ≤ 1000000) : strconv_Atoi.f s = some (atoiPair s.data.toList) := by
  unfold strconv_Atoi.f
  rw [if_pos hs]
theorem walk_facts (m S : Nat) (h : m < S) (hS : S ≤ 1000000) : ¬ ((m : Int) < 0) ∧ (0 : Int) ≤ (m : Int) ∧ (m : Int) ≤ (S : Int) ∧ (m : Int) < (S : Int) ∧ (0 : Int) ≤ ((m + 1 : Nat) : Int) ∧ ((m + 1 : Nat) : Int) ≤ (S : Int) ∧ wrap64 ((m : Int) + 1) = ((m + 1 : Nat) : Int) :=
  ⟨by omega, by omega, by omega, by omega, by omega, by omega, wrap64_small (by omega) (by omega)⟩
theorem fin_no (s : ByteArray) (x5 : ByteArray) (hno : ∀ out : List S81, ¬ (Hand.aKind 6 (out.map tup) = true ∧ Hand.kindsT (out.map tup) = s.data.toList)) (out : List S81) : Ev (fun k => impl_ParseKindTests.j1 k s out x5 false) ([], false) := by
  refine Ev.step (f := fun _ => some ([], false)) (fun k => ?_) (Ev.now _)
  simp only [impl_ParseKindTests.j1]
  rw [if_ff]
  unfold impl_AreKindTests.f
  show ((some (Hand.aKind 6 (out.map tup))).bind _) = _
  rw [Option.bind_some]
  cases hg : Hand.aKind 6 (out.map tup) with
  | false => rw [if_ff]
  | true =>
    rw [if_pos rfl]
    have e : impl_kindTestsText.f out = some (⟨(Hand.kindsT (out.map tup)).toArray⟩ : ByteArray) := by unfold impl_kindTestsText.f; exact if_pos hg
    rw [e, Option.bind_some, if_neg]
    rw [Go.Lib.toList_data, Go.Lib.toList_data]
    intro h
    exact hno out ⟨hg, h⟩
theorem impl_no (s : ByteArray) (hno : ∀ out : List S81, ¬ (Hand.aKind 6 (out.map tup) = true ∧ Hand.kindsT (out.map tup) = s.data.toList)) (n : Nat) : ∀ (rest : ByteArray) (out : List S81), rest.size ≤ n → rest.size ≤ 1000000 → out.length ≤ 41 → Ev (fun k => impl_ParseKindTests.l0 k s out rest) ([], false) := by
  induction n with
  | zero =>
    intro rest out hn _ _
    have h0 : rest.data.toList = [] := List.length_eq_zero_iff.1 (by rw [← Go.Lib.size_eq]; omega)
    refine Ev.step (f := fun k => impl_ParseKindTests.j1 k s out rest false) (fun k => ?_) (fin_no s rest hno out)
    simp only [impl_ParseKindTests.l0]
    rw [if_pos (by rw [Go.Lib.toList_data]; exact h0)]
  | succ n ih =>
    intro rest out hn hm hl
    by_cases h0 : rest.data.toList = []
    · refine Ev.step (f := fun k => impl_ParseKindTests.j1 k s out rest false) (fun k => ?_) (fin_no s rest hno out)
      simp only [impl_ParseKindTests.l0]
      rw [if_pos (by rw [Go.Lib.toList_data]; exact h0)]
    · by_cases hc : (out.length : Int) ≤ 40
      · refine Ev.step (f := fun k => impl_ParseKindTests.j1 k s out rest true) (fun k => ?_) ?_
        · simp only [impl_ParseKindTests.l0]
          rw [if_neg (by rw [Go.Lib.toList_data]; exact h0), decide_eq_true hc]
        · have hsz := Go.Lib.size_eq rest
          have hlt := any_lt Hand.signsL rest.data.toList
          have hga := Go.Lib.indexAny_ge Hand.signsL rest.data.toList
          have ha := any_some rest hm
          generalize Go.Lib.indexAny rest.data.toList Hand.signsL = t at *
          by_cases ht : t < 1
          · refine Ev.step (f := fun _ => some ([], false)) (fun k => ?_) (Ev.now _)
            simp only [impl_ParseKindTests.j1]
            rw [if_pos trivial, ha, Option.bind_some, if_pos ht]
          · obtain ⟨m, rfl⟩ := Int.eq_ofNat_of_zero_le (by omega : 0 ≤ t)
            have hes : (rest.extract 1 m).size ≤ 1000000 := by rw [Go.Lib.size_eq, Go.Lib.extract_data, List.length_take, List.length_drop]; omega
            have hat := atoi_some (rest.extract 1 m) hes
            obtain ⟨f1, f2, f3, f4, f5, f6, f7⟩ := walk_facts m rest.size (by omega) hm
            have f8 : (1 : Int) ≤ (m : Int) := by omega
            have f9 : (0 : Int) < (rest.size : Int) := by omega
            rcases hp : atoiPair (rest.extract 1 m).data.toList with ⟨v, er⟩
            rw [hp] at hat
            cases er with
            | some q =>
              refine Ev.step (f := fun _ => some ([], false)) (fun k => ?_) (Ev.now _)
              simp only [impl_ParseKindTests.j1]
              rw [if_pos trivial, ha, Option.bind_some, if_neg ht, if_pos f8, if_pos f3, Int.toNat_natCast, hat, Option.bind_some, if_neg (show ¬ ((v, some q).2.isNone = true) from fun h => by cases h)]
            | none =>
              have h1 := ih (rest.extract (m + 1) rest.size) (out ++ [(⟨((bt rest 0) == 115), v, ((bt rest (m : Int)) == 33)⟩ : S81)]) (by rw [Go.Lib.size_eq, Go.Lib.extract_to_end, List.length_drop]; omega) (by rw [Go.Lib.size_eq, Go.Lib.extract_to_end, List.length_drop]; omega) (by rw [List.length_append, List.length_singleton]; omega)
              refine Ev.step (f := fun k => impl_ParseKindTests.l0 k s (out ++ [(⟨((bt rest 0) == 115), v, ((bt rest (m : Int)) == 33)⟩ : S81)]) (rest.extract (m + 1) rest.size)) (fun k => ?_) h1
              simp only [impl_ParseKindTests.j1]
              rw [if_pos trivial, ha, Option.bind_some, if_neg ht, if_pos f8, if_pos f3, Int.toNat_natCast, hat, Option.bind_some, if_pos (show ((v, (none : Option Int)).2.isNone = true) from rfl), if_pos f9, if_pos f2, if_pos f4, if_pos (len_lt _ (by omega)), f7, if_pos f5, if_pos f6, Int.toNat_natCast]
      · refine Ev.step (f := fun k => impl_ParseKindTests.j1 k s out rest false) (fun k => ?_) (fin_no s rest hno out)
        simp only [impl_ParseKindTests.l0]
        rw [if_neg (by rw [Go.Lib.toList_data]; exact h0), decide_eq_false hc]
theorem atoi_pair_digs (n : Nat) (h : n < 9223372036854775808) : atoiPair (Go.Lib.decDigits n) = ((n : Int), none) := by
  unfold atoiPair
  rw [Hand.atoi_digs n h]
theorem any_two (a b c : UInt8) (r : List UInt8) (ha : Hand.signsL.contains a = false) (hb : Hand.signsL.contains b = false) (hc : Hand.signsL.contains c = true) : Go.Lib.indexAny (a :: b :: c :: r) Hand.signsL = 2 := by
  refine Go.Lib.indexAny_hit (i := 2) (x := c) (fun j x hj hx => ?_) rfl hc
  match j, hj, hx with
  | 0, _, hx => rw [← Option.some.inj hx]; exact ha
  | 1, _, hx => rw [← Option.some.inj hx]; exact hb
theorem dig_no (d : Nat) (h : d < 10) : Hand.signsL.contains (UInt8.ofNat (48 + d)) = false := by
  match d, h with
  | 0, _ => rfl
  | 1, _ => rfl
  | 2, _ => rfl
  | 3, _ => rfl
  | 4, _ => rfl
  | 5, _ => rfl
  | 6, _ => rfl
  | 7, _ => rfl
  | 8, _ => rfl
  | 9, _ => rfl
theorem impl_yes (s : ByteArray) (out : List S81) (hv : Hand.aKind 6 (out.map tup) = true) (ht : Hand.kindsT (out.map tup) = s.data.toList) (d : Nat) : ∀ (j : Nat) (rest : ByteArray), j + d = out.length → rest.data.toList = K (out.drop j) → Ev (fun k => impl_ParseKindTests.l0 k s (out.take j) rest) (out, true) := by
  obtain ⟨hl, hm⟩ := valid_mem hv
  induction d with
  | zero =>
    intro j rest hj hr
    rw [List.drop_eq_nil_of_le (by omega)] at hr
    rw [List.take_of_length_le (by omega)]
    have h0 : rest.data.toList = [] := hr
    refine Ev.step (f := fun k => impl_ParseKindTests.j1 k s out rest false) (fun k => ?_) (Ev.step (f := fun _ => some (out, true)) (fun k => ?_) (Ev.now _))
    · simp only [impl_ParseKindTests.l0]
      rw [if_pos (by rw [Go.Lib.toList_data]; exact h0)]
    · simp only [impl_ParseKindTests.j1]
      rw [if_ff]
      unfold impl_AreKindTests.f
      show ((some (Hand.aKind 6 (out.map tup))).bind _) = _
      have e : impl_kindTestsText.f out = some (⟨(Hand.kindsT (out.map tup)).toArray⟩ : ByteArray) := by unfold impl_kindTestsText.f; exact if_pos hv
      rw [Option.bind_some, hv, if_pos rfl, e, Option.bind_some, if_pos]
      rw [Go.Lib.toList_data, Go.Lib.toList_data]
      exact ht
  | succ d ih =>
    intro j rest hj hr
    have hlt : j < out.length := by omega
    have hmj := hm out[j] (List.getElem_mem hlt)
    obtain ⟨n, hn⟩ := Int.eq_ofNat_of_zero_le (by omega : 0 ≤ (out[j]).f1)
    have hn6 : n ≤ 6 := by omega
    have hr2 : rest.data.toList = (if out[j].f0 then 115 else 119) :: UInt8.ofNat (48 + n) :: sg out[j].f2 :: K (out.drop (j + 1)) := by
      rw [hr, List.drop_eq_getElem_cons hlt, K_cons, hn, Int.toNat_natCast]
    have hsz := Go.Lib.size_eq rest
    have hS : rest.size ≤ 1000000 ∧ 2 < rest.size := by
      rw [hsz, hr, K_len, List.length_drop]
      omega
    have ha := any_some rest hS.1
    have hany : Go.Lib.indexAny rest.data.toList Hand.signsL = 2 := by
      rw [hr2]
      refine any_two _ _ _ _ ?_ (dig_no n (by omega)) ?_
      · cases out[j].f0 <;> rfl
      · cases out[j].f2 <;> rfl
    rw [hany] at ha
    have hex : (rest.extract 1 2).data.toList = Go.Lib.decDigits n := by rw [Go.Lib.extract_data, hr2, Go.Lib.decDigits_one (by omega)]; rfl
    have hat := atoi_some (rest.extract 1 2) (by rw [Go.Lib.size_eq, hex, Go.Lib.decDigits_one (by omega)]; show 1 ≤ 1000000; decide)
    rw [hex, atoi_pair_digs n (Nat.lt_of_le_of_lt hn6 (by decide))] at hat
    have b0 := at_drop rest.data.toList 0 0 _ (by rw [List.drop_zero, hr2]; rfl) rest rfl
    have b2 := at_drop rest.data.toList 0 2 _ (by rw [List.drop_zero, hr2]; rfl) rest rfl
    have e0 : bt rest 0 = ((((if out[j].f0 then 115 else 119 : UInt8)).toNat : Nat) : Int) := b0
    have e2 : bt rest 2 = (((sg out[j].f2).toNat : Nat) : Int) := b2
    have hne : rest.data.toList ≠ [] := fun e => by rw [hr2] at e; cases e
    have hr3 : (rest.extract 3 rest.size).data.toList = K (out.drop (j + 1)) := by rw [Go.Lib.extract_to_end, hr2]; rfl
    have h1 := ih (j + 1) (rest.extract 3 rest.size) (by omega) hr3
    rw [List.take_succ_eq_append_getElem hlt] at h1
    have htl : (out.take j).length ≤ 40 := by rw [List.length_take]; omega
    have htl2 : ((out.take j).length : Int) ≤ 40 := Int.ofNat_le.2 htl
    have g1 : (2 : Int) ≤ (rest.size : Int) := by omega
    have g2 : (0 : Int) < (rest.size : Int) := by omega
    have g3 : (2 : Int) < (rest.size : Int) := by omega
    have g4 : wrap64 ((2 : Int) + 1) = 3 := wrap64_small (by omega) (by omega)
    have g5 : (3 : Int) ≤ (rest.size : Int) := by omega
    refine Ev.step (f := fun k => impl_ParseKindTests.j1 k s (out.take j) rest true) (fun k => ?_) (Ev.step (f := fun k => impl_ParseKindTests.l0 k s (out.take j ++ [out[j]]) (rest.extract 3 rest.size)) (fun k => ?_) h1)
    · simp only [impl_ParseKindTests.l0]
      rw [if_neg (by rw [Go.Lib.toList_data]; exact hne), decide_eq_true htl2]
    · simp only [impl_ParseKindTests.j1]
      rw [if_pos trivial, ha, Option.bind_some, if_neg (show ¬ ((2 : Int) < 1) by decide), if_pos (show (1 : Int) ≤ 2 by decide), if_pos g1, show (2 : Int).toNat = 2 from rfl, hat, Option.bind_some, if_pos (show (((n : Int), (none : Option Int)).2.isNone = true) from rfl), if_pos g2, if_pos (show (0 : Int) ≤ 2 by decide), if_pos g3, if_pos (len_lt _ (Nat.le_trans htl (by decide))), g4, if_pos (show (0 : Int) ≤ 3 by decide), if_pos g5, show (3 : Int).toNat = 3 from rfl, e0, e2, c0_bt, sg_bt]
      show impl_ParseKindTests.l0 k s (out.take j ++ [(⟨out[j].f0, (n : Int), out[j].f2⟩ : S81)]) _ = _
      rw [← hn]
theorem kinds_both (s : ByteArray) (hs : s.size ≤ 1000000) : ∃ r : List S81 × Bool, r.1.length ≤ 1001 ∧ Ev (fun k => spec_ParseKindTests.f k s) r ∧ Ev (fun k => impl_ParseKindTests.f k s) r := by
  have hsz := Go.Lib.size_eq s
  by_cases h : ∃ out : List S81, Hand.aKind 6 (out.map tup) = true ∧ Hand.kindsT (out.map tup) = s.data.toList
  · obtain ⟨out, hv, ht⟩ := h
    obtain ⟨hl, hm⟩ := valid_mem hv
    have hK : s.data.toList = K out := by rw [← ht, text_K out hm]
    have h3 : s.size = 3 * out.length := by rw [hsz, hK, K_len]
    refine ⟨(out, true), Nat.le_trans hl (by decide), ?_, ?_⟩
    · have h1 := spec_yes s out hv ht out.length 0 (by omega)
      have g1 : ((s.size : Int) % 3) = 0 := by omega
      have g2 : decide ((s.size : Int) > 120) = false := decide_eq_false (by omega)
      refine Ev.congr (f := fun k => spec_ParseKindTests.j0 k s false) (fun k => by unfold spec_ParseKindTests.f; rw [if_pos g1, g2]) (Ev.step (f := fun k => spec_ParseKindTests.l0 k s [] 0) (fun k => ?_) h1)
      simp only [spec_ParseKindTests.j0]; rw [if_ff]
    · exact impl_yes s out hv ht out.length 0 s (by omega) (by rw [List.drop_zero]; exact hK)
  · have hno : ∀ out : List S81, ¬ (Hand.aKind 6 (out.map tup) = true ∧ Hand.kindsT (out.map tup) = s.data.toList) := fun out ho => h ⟨out, ho⟩
    refine ⟨([], false), by simp, ?_, impl_no s hno s.size s [] (Nat.le_refl _) hs (by simp)⟩
    have hj : Ev (fun k => spec_ParseKindTests.j0 k s true) ([], false) := Ev.step (f := fun _ => some ([], false)) (fun k => by simp only [spec_ParseKindTests.j0]; rw [if_pos trivial]) (Ev.now _)
    by_cases g1 : ((s.size : Int) % 3) = 0
    · by_cases g2 : (s.size : Int) > 120
      · exact Ev.congr (fun k => by unfold spec_ParseKindTests.f; rw [if_pos g1, decide_eq_true g2]) hj
      · have h1 := spec_no s (by omega) hno (s.size / 3) 0 [] (by omega) (Nat.zero_le _)
        refine Ev.congr (f := fun k => spec_ParseKindTests.j0 k s false) (fun k => by unfold spec_ParseKindTests.f; rw [if_pos g1, decide_eq_false g2]) (Ev.step (f := fun k => spec_ParseKindTests.l0 k s [] 0) (fun k => ?_) h1)
        simp only [spec_ParseKindTests.j0]; rw [if_ff]
    · exact Ev.congr (fun k => by unfold spec_ParseKindTests.f; rw [if_neg g1]) hj
theorem FnExactParseKindTests : ∀ (a0 : ByteArray), ∃ k, laws_FnExactParseKindTests.f k a0 = some true := by
  intro a0
  apply Ev.rounds
  unfold laws_FnExactParseKindTests.f
  by_cases h : (a0.size : Int) > 1000000
  · exact Ev.congr (fun k => if_pos h) (Ev.now _)
  · refine Ev.congr (fun k => if_neg h) ?_
    obtain ⟨r, hrl, hs, hi⟩ := kinds_both a0 (by omega)
    obtain ⟨mr, hmk, hh⟩ := mark_heldK r.1 (by omega)
    have heq := eqKindS_self r.1 (by omega)
    refine Ev.bind hs ?_
    refine Ev.bind hi ?_
    refine Ev.bind heq ?_
    refine Ev.congr (fun k => if_pos rfl) ?_
    refine Ev.congr (fun k => if_neg (by simp)) ?_
    refine Ev.bind hmk ?_
    refine Ev.bind hh ?_
    refine Ev.congr (fun k => if_neg (by omega)) ?_
    refine Ev.congr (fun k => if_pos rfl) ?_
    refine Ev.bind hi ?_
    refine Ev.bind heq ?_
    refine Ev.congr (fun k => if_pos rfl) ?_
    refine Ev.congr (fun k => if_neg (by simp)) ?_
    refine Ev.bind hh ?_
    refine Ev.congr (fun k => if_neg (by omega)) ?_
    refine Ev.congr (fun k => if_pos rfl) ?_
    exact Ev.now _

end Go.Proofs.YtbgmhdlmhncdcaaDoor.Pure
