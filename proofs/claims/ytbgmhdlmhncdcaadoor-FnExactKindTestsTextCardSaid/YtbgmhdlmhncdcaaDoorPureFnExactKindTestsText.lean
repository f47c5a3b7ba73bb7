/- The program's KindTestsText answers as the reference's does, and leaves the row that it is given alone, for every list; no conditions. -/
import Derived.Test.YtbgmhdlmhncdcaaDoorQFnExactKindTestsTextx4
namespace Go.Proofs.YtbgmhdlmhncdcaaDoor.Pure
open Go.RowKit Go.Proofs.YtbgmhdlmhncdcaaDoor.QFnExactKindTestsText Go.Proofs.YtbgmhdlmhncdcaaDoorW.PrintWords Go.Proofs.YtbgmhdlmhncdcaaDoorW.PrintLast Go.Proofs.YtbgmhdlmhncdcaaDoorW.PrintMore
set_option linter.unusedVariables false

theorem wrap64_small {x : Int} (h0 : -9223372036854775808 ≤ x) (h1 : x < 9223372036854775808) : wrap64 x = x := by
  unfold wrap64; omega
theorem l1In_some (a b c : Int) : spec_l1In.f a b c = some (decide (b ≤ a ∧ a ≤ c)) := by
  unfold spec_l1In.f
  by_cases h : a ≥ b
  · rw [if_pos h]; congr 1; rw [Bool.eq_iff_iff]; simp; omega
  · rw [if_neg h]; congr 1; symm; rw [decide_eq_false_iff_not]; omega
theorem l1In_yes {a b c : Int} (h : b ≤ a ∧ a ≤ c) : spec_l1In.f a b c = some true := by rw [l1In_some, decide_eq_true h]
theorem l1In_no {a b c : Int} (h : ¬ (b ≤ a ∧ a ≤ c)) : spec_l1In.f a b c = some false := by rw [l1In_some, decide_eq_false h]
theorem if_ff {α : Type} (x y : α) : (if false = true then x else y) = y := if_neg (by decide)

theorem inn_dec (a b c : Int) : Hand.inn a b c = decide (b ≤ a ∧ a ≤ c) := by unfold Hand.inn; rw [Bool.decide_and]
theorem inn_some (a b c : Int) : spec_l1In.f a b c = some (Hand.inn a b c) := by rw [l1In_some, inn_dec]
theorem rd_nat (l : List Int) (i : Nat) (h : i < l.length) : rd l (i : Int) = l[i] := by unfold rd; simp [h]

theorem rd81_nat (l : List S81) (i : Nat) (h : i < l.length) : rd_T81 l (i : Int) = l[i] := by unfold rd_T81; simp [h]
theorem kiTests_go (l : List S81) (b : Int) (hl : l.length < 1000000000000) (d : Nat) : ∀ (i : Nat), i + d = l.length → Ev (fun k => spec_kiTests.l0 k b l (l.length : Int) (i : Int)) (!((l.drop i).any fun x => !(Hand.inn x.f1 1 b))) := by
  induction d with
  | zero =>
    intro i hi
    refine Ev.step (f := fun _ => some true) (fun k => ?_) ?_
    · simp only [spec_kiTests.l0]; rw [if_neg (by omega)]
    · rw [List.drop_eq_nil_of_le (by omega)]; exact Ev.now _
  | succ d ih =>
    intro i hi
    have hlt : i < l.length := by omega
    have hw : wrap64 ((i : Int) + 1) = ((i + 1 : Nat) : Int) := wrap64_small (by omega) (by omega)
    rw [List.drop_eq_getElem_cons hlt, List.any_cons]
    cases hc : Hand.inn l[i].f1 1 b with
    | true =>
      refine Ev.step (f := fun k => spec_kiTests.l0 k b l (l.length : Int) ((i + 1 : Nat) : Int)) (fun k => ?_) (by rw [Bool.not_true, Bool.false_or]; exact ih (i + 1) (by omega))
      simp only [spec_kiTests.l0]
      rw [if_pos (by omega), if_pos (by omega), if_pos (by omega), rd81_nat l i hlt, inn_some, hc, Option.bind_some, if_pos rfl, hw]
    | false =>
      refine Ev.step (f := fun _ => some false) (fun k => ?_) (by rw [Bool.not_false, Bool.true_or]; exact Ev.now _)
      simp only [spec_kiTests.l0]
      rw [if_pos (by omega), if_pos (by omega), if_pos (by omega), rd81_nat l i hlt, inn_some, hc, Option.bind_some, if_ff]
def tup (x : S81) : Bool × Int × Bool := (x.f0, x.f1, x.f2)
theorem kiFloors_some (a : Int) : spec_kiFloors.f a = some (Hand.inn a 0 6) := by unfold spec_kiFloors.f; rw [inn_some, Option.bind_some]
theorem kiTests_ev (b : Int) (l : List S81) (hl : l.length < 1000000000000) : Ev (fun k => spec_kiTests.f k b l) (Hand.aKind b (l.map tup)) := by
  unfold Hand.aKind
  rw [List.length_map, List.any_map]
  cases hc : Hand.inn b 0 6 with
  | true =>
    by_cases h : l.length ≤ 40
    · rw [decide_eq_true h, Bool.and_true, Bool.true_and]
      refine Ev.congr (f := fun k => spec_kiTests.j0 k b l false) (fun k => ?_) (Ev.step (f := fun k => spec_kiTests.l0 k b l (l.length : Int) ((0 : Nat) : Int)) (fun k => ?_) (kiTests_go l b hl l.length 0 (by omega)))
      · unfold spec_kiTests.f
        rw [kiFloors_some, hc, Option.bind_some, if_pos rfl, show decide ((l.length : Int) > 40) = false from decide_eq_false (by omega)]
      · simp only [spec_kiTests.j0]; rw [if_ff]; rfl
    · rw [decide_eq_false h, Bool.and_false, Bool.false_and]
      refine Ev.congr (f := fun k => spec_kiTests.j0 k b l true) (fun k => ?_) (Ev.step (f := fun _ => some false) (fun k => ?_) (Ev.now _))
      · unfold spec_kiTests.f
        rw [kiFloors_some, hc, Option.bind_some, if_pos rfl, show decide ((l.length : Int) > 40) = true from decide_eq_true (by omega)]
      · simp only [spec_kiTests.j0]; exact if_pos trivial
  | false =>
    rw [Bool.false_and, Bool.false_and]
    refine Ev.congr (f := fun k => spec_kiTests.j0 k b l true) (fun k => ?_) (Ev.step (f := fun _ => some false) (fun k => ?_) (Ev.now _))
    · unfold spec_kiTests.f
      rw [kiFloors_some, hc, Option.bind_some, if_ff]
    · simp only [spec_kiTests.j0]; exact if_pos trivial
theorem szKindTest_ev (l : List S83) (h : l.length ≤ 1000000) : laws_szKindTestS.f l 1000000 = some (1000000 - (l.length : Int)) := by
  unfold laws_szKindTestS.f
  have e : wrap64 (1000000 - (l.length : Int)) = 1000000 - (l.length : Int) := wrap64_small (by omega) (by omega)
  rw [e, if_neg (by omega)]
theorem szKindTest_big (l : List S83) (h : ¬ l.length ≤ 1000000) (hm : l.length ≤ 9223372036854775807) : laws_szKindTestS.f l 1000000 = some (-1) := by
  unfold laws_szKindTestS.f
  have e : wrap64 (1000000 - (l.length : Int)) = 1000000 - (l.length : Int) := wrap64_small (by omega) (by omega)
  rw [e, if_pos (by omega)]

theorem bapp (a b : List UInt8) : (⟨a.toArray⟩ ++ ⟨b.toArray⟩ : ByteArray) = ⟨(a ++ b).toArray⟩ := by
  apply ByteArray.ext
  rw [ByteArray.data_append]
  simp
theorem bsize (a : List UInt8) : (⟨a.toArray⟩ : ByteArray).size = a.length := by simp [ByteArray.size]
def numB (n : Nat) : ByteArray := ⟨(Go.Lib.decDigits n).toArray⟩
theorem digs_le_ (n : Nat) : (Go.Lib.decDigits n).length ≤ n + 1 := by
  induction n using Nat.strongRecOn with
  | _ n ih =>
    rw [Go.Lib.decDigits]
    split
    · simp
    · have := ih (n / 10) (by omega)
      rw [List.length_append, List.length_singleton]
      omega
theorem numB_size (n : Nat) : (numB n).size ≤ n + 1 := by unfold numB; rw [bsize]; exact digs_le_ n
theorem one_num (d : Nat) (h : d < 10) : strOfNums ([wrap64 (48 + (d : Int)) % 256] : List Int) = ⟨([UInt8.ofNat (48 + d)] : List UInt8).toArray⟩ := by
  have e : wrap64 (48 + (d : Int)) % 256 = ((48 + d : Nat) : Int) := by rw [wrap64_small (by omega) (by omega)]; omega
  rw [e]
  rfl
theorem l1Num_ev (n : Nat) (hn : n ≤ 1000000000000000) : Ev (fun k => spec_l1Num.f k (n : Int)) (numB n) := by
  induction n using Nat.strongRecOn with
  | _ n ih =>
    by_cases h : n < 10
    · refine Ev.step (f := fun _ => some (numB n)) (fun k => ?_) (Ev.now _)
      simp only [spec_l1Num.f]
      rw [if_pos (by omega), one_num n h]
      unfold numB
      rw [Go.Lib.decDigits, dif_pos h]
    · have h1 := ih (n / 10) (by omega) (by omega)
      have hd : wrap64 (Int.tdiv (n : Int) 10) = ((n / 10 : Nat) : Int) := by rw [Int.tdiv_eq_ediv_of_nonneg (by omega), wrap64_small (by omega) (by omega)]; omega
      have hm : Int.tmod (n : Int) 10 = ((n % 10 : Nat) : Int) := by rw [Int.tmod_eq_emod_of_nonneg (by omega)]; omega
      have hs := numB_size (n / 10)
      refine Ev.step (f := fun k => (spec_l1Num.f k ((n / 10 : Nat) : Int)).bind fun t => (if t.size + 1 ≤ 9223372036854775807 then some (t ++ ⟨([UInt8.ofNat (48 + n % 10)] : List UInt8).toArray⟩) else none)) (fun k => ?_) (Ev.bind h1 ?_)
      · simp only [spec_l1Num.f]
        rw [if_neg (by omega), hd, hm]
        congr 1
        funext t
        rw [Option.bind_some, one_num _ (by omega), bsize]
        rfl
      · refine Ev.congr (fun k => if_pos (by omega)) ?_
        refine Ev.congr (f := fun _ => some (numB n)) (fun k => ?_) (Ev.now _)
        unfold numB
        rw [bapp]
        congr 2
        rw [Go.Lib.decDigits.eq_def n, dif_neg h]

theorem kiText_go (l : List S81) (h1000 : l.length ≤ 1000) (hb : ∀ (j : Nat) (h : j < (l.map tup).length), 0 ≤ (l.map tup)[j].2.1 ∧ (l.map tup)[j].2.1 ≤ 1000) (d : Nat) : ∀ i : Nat, i + d = l.length →
    Ev (fun k => spec_kiText.l0 k (⟨(Hand.kindsT ((l.map tup).take i)).toArray⟩ : ByteArray) l (l.length : Int) (i : Int)) (⟨(Hand.kindsT (l.map tup)).toArray⟩ : ByteArray) := by
  induction d with
  | zero =>
    intro i hi
    obtain rfl : i = l.length := by omega
    rw [show (l.map tup).take l.length = l.map tup from List.take_of_length_le (by rw [List.length_map]; exact Nat.le_refl _)]
    refine Ev.step (f := fun _ => some (⟨(Hand.kindsT (l.map tup)).toArray⟩ : ByteArray)) (fun k => ?_) (Ev.now _)
    simp only [spec_kiText.l0]
    rw [if_neg (by omega)]
  | succ d ih =>
    intro i hi
    have hlt : i < l.length := by omega
    have hlt2 : i < (l.map tup).length := by rw [List.length_map]; exact hlt
    have h1 := ih (i + 1) (by omega)
    have hbi := hb i hlt2
    have hl := Hand.kindsT_len (l.map tup) hb i (by omega)
    rw [Hand.kindsT_snoc _ i hlt2] at h1
    have e : (l.map tup)[i] = (l[i].f0, l[i].f1, l[i].f2) := by rw [List.getElem_map]; rfl
    rw [e] at h1 hbi
    obtain ⟨n, hn⟩ : ∃ n : Nat, l[i].f1 = (n : Int) := ⟨(l[i].f1).toNat, by have h3 := hbi.1; have h4 : 0 ≤ l[i].f1 := h3; omega⟩
    have hn2 : n ≤ 1000 := by have h3 := hbi.2; have h4 : l[i].f1 ≤ 1000 := h3; omega
    have hw : wrap64 ((i : Int) + 1) = ((i + 1 : Nat) : Int) := wrap64_small (by omega) (by omega)
    have hd := digs_le_ n
    have s1 : (⟨#[33]⟩ : ByteArray) = ⟨([33] : List UInt8).toArray⟩ := rfl
    have s2 : (⟨#[46]⟩ : ByteArray) = ⟨([46] : List UInt8).toArray⟩ := rfl
    have s3 : (⟨#[115]⟩ : ByteArray) = ⟨([115] : List UInt8).toArray⟩ := rfl
    have s4 : (⟨#[119]⟩ : ByteArray) = ⟨([119] : List UInt8).toArray⟩ := rfl
    have hnum := l1Num_ev n (by omega)
    unfold numB at hnum
    unfold Hand.kindT Hand.dropT at h1
    simp only [hn, Int.toNat_natCast] at h1
    generalize Hand.kindsT ((l.map tup).take i) = L at *
    generalize Go.Lib.decDigits n = D at *
    have key : ∀ (a b : List UInt8), a.length = 1 → b.length = 1 → Ev (fun k => spec_kiText.l0 k (⟨(L ++ (a ++ (D ++ b))).toArray⟩ : ByteArray) l (l.length : Int) ((i + 1 : Nat) : Int)) (⟨(Hand.kindsT (l.map tup)).toArray⟩ : ByteArray) →
        Ev (fun k => (spec_l1Num.f k (n : Int)).bind fun t => (if 1 + t.size ≤ 9223372036854775807 then (if ((⟨a.toArray⟩ : ByteArray) ++ t).size + 1 ≤ 9223372036854775807 then (if (⟨L.toArray⟩ : ByteArray).size + (((⟨a.toArray⟩ : ByteArray) ++ t) ++ (⟨b.toArray⟩ : ByteArray)).size ≤ 9223372036854775807 then (spec_kiText.l0 k ((⟨L.toArray⟩ : ByteArray) ++ (((⟨a.toArray⟩ : ByteArray) ++ t) ++ (⟨b.toArray⟩ : ByteArray))) l (l.length : Int) ((i + 1 : Nat) : Int)) else (none)) else (none)) else (none))) (⟨(Hand.kindsT (l.map tup)).toArray⟩ : ByteArray) := fun a b ha hb' hk => by
      refine Ev.bind hnum ?_
      refine Ev.congr (fun k => if_pos (by rw [bsize]; omega)) ?_
      rw [bapp, bapp, bapp, bsize, bsize, bsize]
      refine Ev.congr (fun k => if_pos (by rw [List.length_append]; omega)) (Ev.congr (fun k => if_pos (by rw [List.length_append, List.length_append]; omega)) ?_)
      rw [List.append_assoc a D b]
      exact hk
    cases hs : l[i].f0 with
    | true =>
      cases hq : l[i].f2 with
      | true =>
        rw [hs, hq, if_pos rfl, if_pos rfl] at h1
        refine Ev.step (fun k => ?_) (key [115] [33] rfl rfl h1)
        simp only [spec_kiText.l0]
        rw [if_pos (by omega), if_pos (by omega), if_pos (by omega), rd81_nat l i hlt, hs, hq, if_pos rfl, if_pos rfl, hn, hw]
      | false =>
        rw [hs, hq, if_pos rfl, if_neg (by decide)] at h1
        refine Ev.step (fun k => ?_) (key [115] [46] rfl rfl h1)
        simp only [spec_kiText.l0]
        rw [if_pos (by omega), if_pos (by omega), if_pos (by omega), rd81_nat l i hlt, hs, hq, if_pos rfl, if_neg (by decide), hn, hw]
    | false =>
      cases hq : l[i].f2 with
      | true =>
        rw [hs, hq, if_neg (by decide), if_pos rfl] at h1
        refine Ev.step (fun k => ?_) (key [119] [33] rfl rfl h1)
        simp only [spec_kiText.l0]
        rw [if_pos (by omega), if_pos (by omega), if_pos (by omega), rd81_nat l i hlt, hs, hq, if_neg (by decide), if_pos rfl, hn, hw]
      | false =>
        rw [hs, hq, if_neg (by decide), if_neg (by decide)] at h1
        refine Ev.step (fun k => ?_) (key [119] [46] rfl rfl h1)
        simp only [spec_kiText.l0]
        rw [if_pos (by omega), if_pos (by omega), if_pos (by omega), rd81_nat l i hlt, hs, hq, if_neg (by decide), if_neg (by decide), hn, hw]
theorem law_both (l : List S81) (hl : l.length < 1000000000000) : ∃ r : ByteArray × Bool, Ev (fun k => spec_KindTestsText.f k l) r ∧ Ev (fun k => impl_KindTestsText.f k l) r := by
  have hs := kiTests_ev 6 l hl
  refine ⟨if Hand.aKind 6 (l.map tup) = true then ((⟨(Hand.kindsT (l.map tup)).toArray⟩ : ByteArray), true) else ((⟨#[]⟩ : ByteArray), false), ?_, ?_⟩
  · unfold spec_KindTestsText.f
    cases hc : Hand.aKind 6 (l.map tup) with
    | false =>
      rw [hc] at hs
      rw [if_neg (by decide)]
      exact Ev.bind hs (Ev.congr (fun k => if_ff _ _) (Ev.now _))
    | true =>
      have hp := aKind_parts hc (by omega)
      rw [hc] at hs
      rw [if_pos rfl]
      refine Ev.bind hs (Ev.congr (fun k => if_pos rfl) (Ev.bind (f := fun _ t => some (t, true)) ?_ (Ev.now _)))
      exact Ev.congr (fun k => rfl) (kiText_go l (by have := hp.1; rw [List.length_map] at this; exact this) hp.2 l.length 0 (by omega))
  · refine Ev.congr (fun k => ?_) (Ev.now _)
    unfold impl_KindTestsText.f
    show (if Hand.aKind 6 (l.map tup) = true then some ((⟨(Hand.kindsT (l.map tup)).toArray⟩ : ByteArray), true) else some ((⟨#[]⟩ : ByteArray), false)) = _
    split <;> rfl
theorem FnExactKindTestsText : laws_FnExactKindTestsText.Pure := by
  intro  l0 hm
  apply Ev.rounds
  unfold laws_FnExactKindTestsText.f
  by_cases h : l0.length ≤ 1000000
  · have ht := laws_toKindTestS.ev l0 h
    obtain ⟨r, hs, hi⟩ := law_both  (l0.map cvKindTest) (by rw [List.length_map]; omega)
    have hx : Ev (fun k => laws_intactKindTestS.f k (l0.map cvKindTest) (l0.map cvKindTest)) true := laws_eqKindTestS_same _ (by rw [List.length_map]; omega)
    refine Ev.congr (f := _) (fun k => by rw [szKindTest_ev l0 h, Option.bind_some, if_neg (by omega)]) ?_
    refine Ev.bind (ht false) ?_
    refine Ev.bind hs ?_
    refine Ev.bind (ht false) ?_
    refine Ev.bind hi ?_
    refine Ev.congr (fun k => if_pos rfl) ?_
    refine Ev.congr (fun k => if_neg (by simp)) ?_
    refine Ev.bind (ht false) ?_
    refine Ev.bind hx ?_
    refine Ev.congr (fun k => if_pos rfl) ?_
    refine Ev.bind (ht true) ?_
    refine Ev.bind hi ?_
    refine Ev.congr (fun k => if_pos rfl) ?_
    refine Ev.congr (fun k => if_neg (by simp)) ?_
    exact Ev.now _
  · exact Ev.congr (f := fun _ => some true) (fun k => by rw [szKindTest_big l0 h hm, Option.bind_some, if_pos (by omega)]) (Ev.now _)

end Go.Proofs.YtbgmhdlmhncdcaaDoor.Pure
