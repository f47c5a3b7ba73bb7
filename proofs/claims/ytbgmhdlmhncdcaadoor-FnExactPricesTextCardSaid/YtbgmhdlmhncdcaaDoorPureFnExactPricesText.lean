/- The program's PricesText answers as the reference's does, for every three prices; no conditions. -/
import Derived.Test.YtbgmhdlmhncdcaaDoorQFnExactPricesTextx2
namespace Go.Proofs.YtbgmhdlmhncdcaaDoor.Pure
open Go.RowKit Go.Proofs.YtbgmhdlmhncdcaaDoor.QFnExactPricesText Go.Proofs.YtbgmhdlmhncdcaaDoorW.PrintWords Go.Proofs.YtbgmhdlmhncdcaaDoorW.PrintLast Go.Proofs.YtbgmhdlmhncdcaaDoorW.PrintMore
set_option linter.unusedVariables false

theorem wrap64_small {x : Int} (h0 : -9223372036854775808 ≤ x) (h1 : x < 9223372036854775808) : wrap64 x = x := by
  unfold wrap64; omega
theorem l1In_some (a b c : Int) : spec_l1In.f a b c = some (decide (b ≤ a ∧ a ≤ c)) := by
  unfold spec_l1In.f
  by_cases h : a ≥ b
  · rw [if_pos h]; congr 1; rw [Bool.eq_iff_iff]; simp; omega
  · rw [if_neg h]; congr 1; symm; rw [decide_eq_false_iff_not]; omega
theorem l1In_yes {a b c : Int} (h : b ≤ a ∧ a ≤ c) : spec_l1In.f a b c = some true := by rw [l1In_some, decide_eq_true h]
theorem l1In_no {a b c : Int} (h : ¬ (b ≤ a ∧ a ≤ c)) : spec_l1In.f a b c = some false := by rw [l1In_some, decide_eq_false h]
theorem if_ff {α : Type} (x y : α) : (if false = true then x else y) = y := if_neg (by decide)

theorem inn_dec (a b c : Int) : Hand.inn a b c = decide (b ≤ a ∧ a ≤ c) := by unfold Hand.inn; rw [Bool.decide_and]
theorem inn_some (a b c : Int) : spec_l1In.f a b c = some (Hand.inn a b c) := by rw [l1In_some, inn_dec]
theorem rd_nat (l : List Int) (i : Nat) (h : i < l.length) : rd l (i : Int) = l[i] := by unfold rd; simp [h]

theorem l1All_go (l : List Int) (a b : Int) (hl : l.length < 1000000000000) (d : Nat) : ∀ (i : Nat), i + d = l.length → Ev (fun k => spec_l1All.l0 k a b l (l.length : Int) (i : Int)) (!((l.drop i).any fun x => !(Hand.inn x a b))) := by
  induction d with
  | zero =>
    intro i hi
    refine Ev.step (f := fun _ => some true) (fun k => ?_) ?_
    · simp only [spec_l1All.l0]; rw [if_neg (by omega)]
    · rw [List.drop_eq_nil_of_le (by omega)]; exact Ev.now _
  | succ d ih =>
    intro i hi
    have hlt : i < l.length := by omega
    have hw : wrap64 ((i : Int) + 1) = ((i + 1 : Nat) : Int) := wrap64_small (by omega) (by omega)
    rw [List.drop_eq_getElem_cons hlt, List.any_cons]
    cases hc : Hand.inn l[i] a b with
    | true =>
      refine Ev.step (f := fun k => spec_l1All.l0 k a b l (l.length : Int) ((i + 1 : Nat) : Int)) (fun k => ?_) (by rw [Bool.not_true, Bool.false_or]; exact ih (i + 1) (by omega))
      simp only [spec_l1All.l0]
      rw [if_pos (by omega), if_pos (by omega), if_pos (by omega), rd_nat l i hlt, inn_some, hc, Option.bind_some, if_pos rfl, hw]
    | false =>
      refine Ev.step (f := fun _ => some false) (fun k => ?_) (by rw [Bool.not_false, Bool.true_or]; exact Ev.now _)
      simp only [spec_l1All.l0]
      rw [if_pos (by omega), if_pos (by omega), if_pos (by omega), rd_nat l i hlt, inn_some, hc, Option.bind_some, if_ff]

theorem bapp (a b : List UInt8) : (⟨a.toArray⟩ ++ ⟨b.toArray⟩ : ByteArray) = ⟨(a ++ b).toArray⟩ := by
  apply ByteArray.ext
  rw [ByteArray.data_append]
  simp
theorem bsize (a : List UInt8) : (⟨a.toArray⟩ : ByteArray).size = a.length := by simp [ByteArray.size]
def numB (n : Nat) : ByteArray := ⟨(Go.Lib.decDigits n).toArray⟩
theorem digs_le_ (n : Nat) : (Go.Lib.decDigits n).length ≤ n + 1 := by
  induction n using Nat.strongRecOn with
  | _ n ih =>
    rw [Go.Lib.decDigits]
    split
    · simp
    · have := ih (n / 10) (by omega)
      rw [List.length_append, List.length_singleton]
      omega
theorem numB_size (n : Nat) : (numB n).size ≤ n + 1 := by unfold numB; rw [bsize]; exact digs_le_ n
theorem one_num (d : Nat) (h : d < 10) : strOfNums ([wrap64 (48 + (d : Int)) % 256] : List Int) = ⟨([UInt8.ofNat (48 + d)] : List UInt8).toArray⟩ := by
  have e : wrap64 (48 + (d : Int)) % 256 = ((48 + d : Nat) : Int) := by rw [wrap64_small (by omega) (by omega)]; omega
  rw [e]
  rfl
theorem l1Num_ev (n : Nat) (hn : n ≤ 1000000000000000) : Ev (fun k => spec_l1Num.f k (n : Int)) (numB n) := by
  induction n using Nat.strongRecOn with
  | _ n ih =>
    by_cases h : n < 10
    · refine Ev.step (f := fun _ => some (numB n)) (fun k => ?_) (Ev.now _)
      simp only [spec_l1Num.f]
      rw [if_pos (by omega), one_num n h]
      unfold numB
      rw [Go.Lib.decDigits, dif_pos h]
    · have h1 := ih (n / 10) (by omega) (by omega)
      have hd : wrap64 (Int.tdiv (n : Int) 10) = ((n / 10 : Nat) : Int) := by rw [Int.tdiv_eq_ediv_of_nonneg (by omega), wrap64_small (by omega) (by omega)]; omega
      have hm : Int.tmod (n : Int) 10 = ((n % 10 : Nat) : Int) := by rw [Int.tmod_eq_emod_of_nonneg (by omega)]; omega
      have hs := numB_size (n / 10)
      refine Ev.step (f := fun k => (spec_l1Num.f k ((n / 10 : Nat) : Int)).bind fun t => (if t.size + 1 ≤ 9223372036854775807 then some (t ++ ⟨([UInt8.ofNat (48 + n % 10)] : List UInt8).toArray⟩) else none)) (fun k => ?_) (Ev.bind h1 ?_)
      · simp only [spec_l1Num.f]
        rw [if_neg (by omega), hd, hm]
        congr 1
        funext t
        rw [Option.bind_some, one_num _ (by omega), bsize]
        rfl
      · refine Ev.congr (fun k => if_pos (by omega)) ?_
        refine Ev.congr (f := fun _ => some (numB n)) (fun k => ?_) (Ev.now _)
        unfold numB
        rw [bapp]
        congr 2
        rw [Go.Lib.decDigits.eq_def n, dif_neg h]

theorem csGood_ev (a b c : Int) : Ev (fun k => spec_csGood.f k a b c) (Hand.inn a 0 1000 && (Hand.inn b 0 1000 && Hand.inn c 0 1000)) := by
  have h := l1All_go [a, b, c] 0 1000 (by simp) 3 0 rfl
  have e : (!(([a, b, c].drop 0).any fun x => !(Hand.inn x 0 1000))) = (Hand.inn a 0 1000 && (Hand.inn b 0 1000 && Hand.inn c 0 1000)) := by
    simp only [List.drop_zero, List.any_cons, List.any_nil]
    cases Hand.inn a 0 1000 <;> cases Hand.inn b 0 1000 <;> cases Hand.inn c 0 1000 <;> rfl
  rw [e] at h
  unfold spec_csGood.f
  exact Ev.bind (f := fun _ t => some t) (Ev.congr (fun k => rfl) h) (Ev.now _)
theorem csText_ev (a b c : Nat) (ha : a ≤ 1000) (hb : b ≤ 1000) (hc : c ≤ 1000) : Ev (fun k => spec_csText.f k (a : Int) (b : Int) (c : Int)) (⟨(Hand.numsT [(a : Int), (b : Int), (c : Int)] [47]).toArray⟩ : ByteArray) := by
  have s1 := digs_le_ a
  have s2 := digs_le_ b
  have s3 := digs_le_ c
  have hsl : (⟨#[47]⟩ : ByteArray) = ⟨([47] : List UInt8).toArray⟩ := rfl
  unfold spec_csText.f
  refine Ev.bind (l1Num_ev a (by omega)) (Ev.congr (fun k => if_pos (by unfold numB; rw [bsize]; omega)) (Ev.bind (l1Num_ev b (by omega)) ?_))
  refine Ev.congr (fun k => if_pos (by unfold numB; rw [hsl, bapp, bsize, bsize, List.length_append, List.length_singleton]; omega)) ?_
  refine Ev.congr (fun k => if_pos (by unfold numB; rw [hsl, bapp, bapp, bsize, List.length_append, List.length_append, List.length_singleton]; omega)) ?_
  refine Ev.bind (l1Num_ev c (by omega)) ?_
  refine Ev.congr (fun k => if_pos (by unfold numB; rw [hsl, bapp, bapp, bapp, bsize, bsize, List.length_append, List.length_append, List.length_append, List.length_singleton]; omega)) ?_
  refine Ev.congr (f := fun _ => some (⟨(Hand.numsT [(a : Int), (b : Int), (c : Int)] [47]).toArray⟩ : ByteArray)) (fun k => ?_) (Ev.now _)
  unfold numB
  rw [hsl, bapp, bapp, bapp, bapp]
  unfold Hand.numsT
  rw [List.map_cons, List.map_cons, List.map_cons, List.map_nil, Go.Lib.join_cons]
  unfold Go.Lib.joinTail
  simp
theorem spec_ev (a b c : Int) : Ev (fun k => spec_PricesText.f k a b c) (pricesRes a b c) := by
  have hg := csGood_ev a b c
  unfold pricesRes
  cases hk : (Hand.inn a 0 1000 && (Hand.inn b 0 1000 && Hand.inn c 0 1000)) with
  | false =>
    rw [hk] at hg
    rw [if_neg (by decide)]
    unfold spec_PricesText.f
    exact Ev.bind hg (Ev.congr (fun k => if_ff _ _) (Ev.now _))
  | true =>
    rw [hk] at hg
    rw [if_pos rfl]
    simp only [Bool.and_eq_true] at hk
    obtain ⟨a, rfl, ha1, ha2⟩ := Hand.inn_nat hk.1 (by omega)
    obtain ⟨b, rfl, hb1, hb2⟩ := Hand.inn_nat hk.2.1 (by omega)
    obtain ⟨c, rfl, hc1, hc2⟩ := Hand.inn_nat hk.2.2 (by omega)
    unfold spec_PricesText.f
    exact Ev.bind hg (Ev.congr (fun k => if_pos rfl) (Ev.bind (csText_ev a b c (by omega) (by omega) (by omega)) (Ev.now _)))
theorem FnExactPricesText (a b c : Int) : ∃ k, laws_FnExactPricesText.f k a b c = some true := by
  refine Ev.rounds ?_
  unfold laws_FnExactPricesText.f laws_toPrices.f
  refine Ev.congr (f := fun k => (spec_PricesText.f k a b c).bind fun x => ((impl_PricesText.f k a b c).bind fun y => (if y.1.toList = x.1.toList then (if (y.2 != x.2) = true then (some false) else (some true)) else (some false)))) (fun k => rfl) ?_
  refine Ev.bind (spec_ev a b c) (Ev.congr (f := fun _ => some true) (fun k => ?_) (Ev.now _))
  unfold impl_PricesText.f
  rw [Option.bind_some, if_pos rfl, if_neg (by simp)]

end Go.Proofs.YtbgmhdlmhncdcaaDoor.Pure
