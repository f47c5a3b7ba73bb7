/- The program's ParseTree answers as the reference's does, in memory of its own, for every text; no conditions. -/
import Derived.Test.YtbgmhdlmhncdcaaDoorQFnExactParseTreex4
namespace Go.Proofs.YtbgmhdlmhncdcaaDoor.Pure
open Go.RowKit Go.Proofs.YtbgmhdlmhncdcaaDoor.QFnExactParseTree Go.Proofs.YtbgmhdlmhncdcaaDoorW.PrintWords Go.Proofs.YtbgmhdlmhncdcaaDoorW.PrintLast
set_option linter.unusedVariables false

theorem wrap64_small {x : Int} (h0 : -9223372036854775808 ≤ x) (h1 : x < 9223372036854775808) : wrap64 x = x := by
  unfold wrap64; omega
theorem l1In_some (a b c : Int) : spec_l1In.f a b c = some (decide (b ≤ a ∧ a ≤ c)) := by
  unfold spec_l1In.f
  by_cases h : a ≥ b
  · rw [if_pos h]; congr 1; rw [Bool.eq_iff_iff]; simp; omega
  · rw [if_neg h]; congr 1; symm; rw [decide_eq_false_iff_not]; omega
theorem l1In_yes {a b c : Int} (h : b ≤ a ∧ a ≤ c) : spec_l1In.f a b c = some true := by rw [l1In_some, decide_eq_true h]
theorem l1In_no {a b c : Int} (h : ¬ (b ≤ a ∧ a ≤ c)) : spec_l1In.f a b c = some false := by rw [l1In_some, decide_eq_false h]
theorem if_ff {α : Type} (x y : α) : (if false = true then x else y) = y := if_neg (by decide)

theorem inn_dec (a b c : Int) : Hand.inn a b c = decide (b ≤ a ∧ a ≤ c) := by unfold Hand.inn; rw [Bool.decide_and]
theorem inn_some (a b c : Int) : spec_l1In.f a b c = some (Hand.inn a b c) := by rw [l1In_some, inn_dec]
theorem rd_nat (l : List Int) (i : Nat) (h : i < l.length) : rd l (i : Int) = l[i] := by unfold rd; simp [h]

theorem within_some (a b c : Int) : impl_within.f a b c = some (decide (b ≤ a ∧ a ≤ c)) := by
  unfold impl_within.f
  by_cases h : a ≥ b
  · rw [if_pos h]; congr 1; rw [Bool.eq_iff_iff]; simp; omega
  · rw [if_neg h]; congr 1; symm; rw [decide_eq_false_iff_not]; omega
theorem within_yes {a b c : Int} (h : b ≤ a ∧ a ≤ c) : impl_within.f a b c = some true := by rw [within_some, decide_eq_true h]
theorem within_no {a b c : Int} (h : ¬ (b ≤ a ∧ a ≤ c)) : impl_within.f a b c = some false := by rw [within_some, decide_eq_false h]

theorem rd_drop (l : List Int) (n : Nat) (j : Int) (h : 0 ≤ j) : rd (l.drop n) j = rd l ((n : Int) + j) := by
  unfold rd
  obtain ⟨m, rfl⟩ := Int.eq_ofNat_of_zero_le h
  rw [Int.toNat_natCast, show ((n : Int) + (m : Int)).toNat = n + m by omega]
  simp [List.getD_eq_getElem?_getD, List.getElem?_drop]
theorem rd_take (l : List Int) (n : Nat) (j : Int) (h : 0 ≤ j) (h1 : j < n) : rd (l.take n) j = rd l j := by
  unfold rd
  obtain ⟨m, rfl⟩ := Int.eq_ofNat_of_zero_le h
  rw [Int.toNat_natCast]
  simp [List.getD_eq_getElem?_getD, show m < n by omega]
/-- The part of a list from a place on. -/
def seg (l : List Int) (at_ n : Nat) : List Int := (l.drop at_).take n
theorem seg_len (l : List Int) (at_ n : Nat) (h : at_ + n ≤ l.length) : (seg l at_ n).length = n := by unfold seg; rw [List.length_take, List.length_drop]; omega
theorem seg_head (l : List Int) (at_ n : Nat) (h : 0 < n) : rd (seg l at_ n) 0 = rd l at_ := by
  unfold seg; rw [rd_take _ _ _ (by omega) (by omega), rd_drop _ _ _ (by omega)]; congr 1
theorem seg_low (l : List Int) (at_ n m : Nat) (h : m + 1 ≤ n) : ((seg l at_ n).take (1 + m)).drop 1 = seg l (at_ + 1) m := by
  unfold seg
  rw [List.take_take, Nat.min_eq_left (by omega), List.drop_take, List.drop_drop]
  congr 1; omega
theorem seg_high (l : List Int) (at_ n m : Nat) (h : m + 1 ≤ n) : (seg l at_ n).drop (1 + m) = seg l (at_ + 1 + m) (n - 1 - m) := by
  unfold seg
  rw [List.drop_take, List.drop_drop, show n - (1 + m) = n - 1 - m by omega, show at_ + (1 + m) = at_ + 1 + m by omega]
theorem tree_wraps (low : Int) (at_ m p : Nat) (h1 : 1 ≤ low) (h2 : low + m ≤ 2000) (hp : p + 1 ≤ m) (h3 : at_ ≤ 1000) :
    wrap64 (low + (m : Int)) = low + m ∧ wrap64 (low + (m : Int) - 1) = low + m - 1 ∧ wrap64 (low + (p : Int) - low) = p ∧ wrap64 (1 + (p : Int)) = ((1 + p : Nat) : Int) ∧ wrap64 (low + (p : Int) + 1) = low + p + 1 ∧ wrap64 (low + (p : Int) - 1) = low + p - 1 ∧ wrap64 ((at_ : Int) + 1) = ((at_ + 1 : Nat) : Int) := by
  refine ⟨wrap64_small (by omega) (by omega), wrap64_small (by omega) (by omega), (wrap64_small (by omega) (by omega)).trans (by omega), (wrap64_small (by omega) (by omega)).trans (by omega), wrap64_small (by omega) (by omega), wrap64_small (by omega) (by omega), (wrap64_small (by omega) (by omega)).trans (by omega)⟩
theorem tree_both (l : List Int) (hl : l.length ≤ 1000) (n : Nat) : ∀ (m at_ : Nat) (low : Int), m ≤ n → at_ + m ≤ l.length → 1 ≤ low → low + m ≤ 2000 →
    ∃ g : Bool, Ev (fun k => spec_trGood.f k (seg l at_ m) low) g ∧ Ev (fun k => impl_treeEnd.f k l at_ low (low + m - 1)) (if g = true then ((at_ + m : Nat) : Int) else -1) ∧ (g = true → ∀ j : Nat, at_ ≤ j → j < at_ + m → low ≤ rd l (j : Int) ∧ rd l (j : Int) ≤ low + m - 1) := by
  induction n with
  | zero =>
    intro m at_ low hm ha h1 h2
    obtain rfl : m = 0 := by omega
    refine ⟨true, Ev.step (f := fun _ => some true) (fun k => ?_) (Ev.now _), ?_, fun _ j h3 h4 => by omega⟩
    · simp only [spec_trGood.f]; rw [if_pos (by rw [seg_len _ _ _ ha]; rfl)]
    · rw [if_pos rfl]
      refine Ev.step (f := fun _ => some (at_ : Int)) (fun k => ?_) (Ev.now _)
      simp only [impl_treeEnd.f]; rw [if_pos (by omega)]
  | succ n ih =>
    intro m at_ low hm ha h1 h2
    by_cases hm0 : m = 0
    · exact ih m at_ low (by omega) ha h1 h2
    · have hlen := seg_len l at_ m ha
      have hhead := seg_head l at_ m (by omega)
      have E0 := Aside0.mk (tree_wraps low at_ m 0 h1 h2 (by omega) (by omega))
      by_cases hw : low ≤ rd l at_ ∧ rd l at_ ≤ low + m - 1
      · obtain ⟨p, hp⟩ : ∃ p : Nat, rd l at_ = low + p := ⟨(rd l at_ - low).toNat, by omega⟩
        have hpm : p + 1 ≤ m := by omega
        have E := Aside0.mk (tree_wraps low at_ m p h1 h2 hpm (by omega))
        obtain ⟨g1, a1, b1, c1⟩ := ih p (at_ + 1) low (by omega) (by omega) h1 (by omega)
        have spec_step : ∀ k, spec_trGood.f (k + 1) (seg l at_ m) low = (spec_trGood.f k (seg l (at_ + 1) p) low).bind fun t => (if t = true then ((spec_trGood.f k (seg l (at_ + 1 + p) (m - 1 - p)) (low + p + 1)).bind fun t => (some t)) else (some false)) := by
          intro k
          simp only [spec_trGood.f]
          unfold spec_trSplit.f
          rw [if_neg (by omega), if_pos (by omega), hhead, hlen, E.out.1, E.out.2.1, l1In_yes hw, Option.bind_some, if_pos rfl, if_pos (by omega), Option.bind_some, hp, E.out.2.2.1, E.out.2.2.2.1, if_pos (by omega), if_pos (by omega), Int.toNat_natCast, seg_low _ _ _ _ hpm, seg_high _ _ _ _ hpm, E.out.2.2.2.2.1]
          congr 1 <;> (funext t; rw [if_pos (show (0 : Int) ≤ ((1 + p : Nat) : Int) by omega)])
        have impl_step : ∀ k, impl_treeEnd.f (k + 1 + 1) l at_ low (low + m - 1) = (impl_treeEnd.f k l ((at_ + 1 : Nat) : Int) low (low + p - 1)).bind fun t => (if t < 0 then (some (-1)) else ((impl_treeEnd.f k l t (low + p + 1) (low + m - 1)).bind fun t => (some t))) := by
          intro k
          rw [impl_treeEnd.f, if_neg (by omega), if_neg (by omega), if_neg (by omega), if_pos (by omega), if_pos (by omega), within_yes hw, Option.bind_some]
          simp only [Bool.not_true, impl_treeEnd.j0]
          rw [if_ff, if_pos (by omega), if_pos (by omega), hp, E.out.2.2.2.2.1, E.out.2.2.2.2.2.1, E.out.2.2.2.2.2.2]
        cases g1 with
        | false =>
          refine ⟨false, Ev.step spec_step (Ev.bind a1 (Ev.congr (fun k => if_ff _ _) (Ev.now _))), ?_, fun h => by cases h⟩
          rw [if_ff]
          rw [if_ff] at b1
          refine Ev.step (f := fun k => impl_treeEnd.f (k + 1) l at_ low (low + m - 1)) (fun k => rfl) (Ev.step impl_step (Ev.bind b1 (Ev.congr (fun k => if_pos (by omega)) (Ev.now _))))
        | true =>
          obtain ⟨g2, a2, b2, c2⟩ := ih (m - 1 - p) (at_ + 1 + p) (low + p + 1) (by omega) (by omega) (by omega) (by omega)
          rw [if_pos rfl] at b1
          rw [show low + (p : Int) + 1 + ((m - 1 - p : Nat) : Int) - 1 = low + m - 1 by omega, show at_ + 1 + p + (m - 1 - p) = at_ + m by omega] at b2
          refine ⟨g2, Ev.step spec_step (Ev.bind a1 (Ev.congr (fun k => if_pos rfl) (Ev.bind (f := fun _ t => some t) a2 (Ev.now _)))), ?_, fun hg j h3 h4 => ?_⟩
          rotate_left
          · by_cases e1 : j = at_
            · subst e1; rw [hp]; omega
            · by_cases e2 : j < at_ + 1 + p
              · have := c1 rfl j (by omega) (by omega); omega
              · have := c2 hg j (by omega) (by omega); omega
          refine Ev.step (f := fun k => impl_treeEnd.f (k + 1) l at_ low (low + m - 1)) (fun k => rfl) (Ev.step impl_step (Ev.bind b1 (Ev.congr (fun k => if_neg (by omega)) (Ev.bind (f := fun _ t => some t) b2 (Ev.now _)))))
      · refine ⟨false, Ev.step (f := fun _ => some false) (fun k => ?_) (Ev.now _), ?_, fun h => by cases h⟩
        · simp only [spec_trGood.f]
          rw [if_neg (by omega), if_pos (by omega), hhead, hlen, E0.out.1, E0.out.2.1, l1In_no hw, Option.bind_some, if_ff]
        · rw [if_ff]
          refine Ev.step (f := fun k => impl_treeEnd.j0 k l at_ low (low + m - 1) true) (fun k => ?_) (Ev.step (f := fun _ => some (-1)) (fun k => ?_) (Ev.now _))
          · rw [impl_treeEnd.f, if_neg (by omega), if_neg (by omega), if_neg (by omega), if_pos (by omega), if_pos (by omega), within_no hw, Option.bind_some]; rfl
          · simp only [impl_treeEnd.j0]; rw [if_pos trivial]
theorem isTree_both (l : List Int) : ∃ g : Bool, Ev (fun k => spec_trIs.f k l) g ∧ Ev (fun k => impl_IsTree.f k l) g ∧ (g = true → l.length ≤ 30 ∧ ∀ j : Nat, j < l.length → 1 ≤ rd l (j : Int) ∧ rd l (j : Int) ≤ 30) := by
  by_cases h : (l.length : Int) ≤ 30
  · obtain ⟨g, h1, h2, h3⟩ := tree_both l (by omega) l.length l.length 0 1 (Nat.le_refl _) (by omega) (by omega) (by omega)
    have es : seg l 0 l.length = l := by unfold seg; rw [List.drop_zero, List.take_length]
    rw [es] at h1
    rw [show (1 : Int) + (l.length : Int) - 1 = l.length by omega, Nat.zero_add] at h2
    refine ⟨g, Ev.congr (f := fun k => (spec_trGood.f k l 1).bind fun t => (some t)) (fun k => ?_) (Ev.bind (f := fun _ t => some t) h1 (Ev.now _)), Ev.congr (f := fun k => (impl_treeEnd.f k l 0 1 (l.length : Int)).bind fun t => (some (t == (l.length : Int)))) (fun k => ?_) (Ev.bind h2 ?_), fun hg => ⟨by omega, fun j hj => by have := h3 hg j (by omega) (by omega); omega⟩⟩
    · unfold spec_trIs.f; rw [if_pos h]
    · unfold impl_IsTree.f; rw [if_pos h]
    · cases g with
      | true => rw [if_pos rfl]; exact Ev.congr (f := fun _ => some true) (fun k => by simp) (Ev.now _)
      | false => rw [if_ff]; exact Ev.congr (f := fun _ => some false) (fun k => by congr 1 <;> (rw [beq_eq_false_iff_ne]; omega)) (Ev.now _)
  · refine ⟨false, Ev.congr (f := fun _ => some false) (fun k => ?_) (Ev.now _), Ev.congr (f := fun _ => some false) (fun k => ?_) (Ev.now _), fun h => by cases h⟩
    · unfold spec_trIs.f; rw [if_neg h]
    · unfold impl_IsTree.f; rw [if_neg h]

theorem bapp (a b : List UInt8) : (⟨a.toArray⟩ ++ ⟨b.toArray⟩ : ByteArray) = ⟨(a ++ b).toArray⟩ := by
  apply ByteArray.ext
  rw [ByteArray.data_append]
  simp
theorem bsize (a : List UInt8) : (⟨a.toArray⟩ : ByteArray).size = a.length := by simp [ByteArray.size]
def numB (n : Nat) : ByteArray := ⟨(Go.Lib.decDigits n).toArray⟩
theorem digs_le_ (n : Nat) : (Go.Lib.decDigits n).length ≤ n + 1 := by
  induction n using Nat.strongRecOn with
  | _ n ih =>
    rw [Go.Lib.decDigits]
    split
    · simp
    · have := ih (n / 10) (by omega)
      rw [List.length_append, List.length_singleton]
      omega
theorem numB_size (n : Nat) : (numB n).size ≤ n + 1 := by unfold numB; rw [bsize]; exact digs_le_ n
theorem one_num (d : Nat) (h : d < 10) : strOfNums ([wrap64 (48 + (d : Int)) % 256] : List Int) = ⟨([UInt8.ofNat (48 + d)] : List UInt8).toArray⟩ := by
  have e : wrap64 (48 + (d : Int)) % 256 = ((48 + d : Nat) : Int) := by rw [wrap64_small (by omega) (by omega)]; omega
  rw [e]
  rfl
theorem l1Num_ev (n : Nat) (hn : n ≤ 1000000000000000) : Ev (fun k => spec_l1Num.f k (n : Int)) (numB n) := by
  induction n using Nat.strongRecOn with
  | _ n ih =>
    by_cases h : n < 10
    · refine Ev.step (f := fun _ => some (numB n)) (fun k => ?_) (Ev.now _)
      simp only [spec_l1Num.f]
      rw [if_pos (by omega), one_num n h]
      unfold numB
      rw [Go.Lib.decDigits, dif_pos h]
    · have h1 := ih (n / 10) (by omega) (by omega)
      have hd : wrap64 (Int.tdiv (n : Int) 10) = ((n / 10 : Nat) : Int) := by rw [Int.tdiv_eq_ediv_of_nonneg (by omega), wrap64_small (by omega) (by omega)]; omega
      have hm : Int.tmod (n : Int) 10 = ((n % 10 : Nat) : Int) := by rw [Int.tmod_eq_emod_of_nonneg (by omega)]; omega
      have hs := numB_size (n / 10)
      refine Ev.step (f := fun k => (spec_l1Num.f k ((n / 10 : Nat) : Int)).bind fun t => (if t.size + 1 ≤ 9223372036854775807 then some (t ++ ⟨([UInt8.ofNat (48 + n % 10)] : List UInt8).toArray⟩) else none)) (fun k => ?_) (Ev.bind h1 ?_)
      · simp only [spec_l1Num.f]
        rw [if_neg (by omega), hd, hm]
        congr 1
        funext t
        rw [Option.bind_some, one_num _ (by omega), bsize]
        rfl
      · refine Ev.congr (fun k => if_pos (by omega)) ?_
        refine Ev.congr (f := fun _ => some (numB n)) (fun k => ?_) (Ev.now _)
        unfold numB
        rw [bapp]
        congr 2
        rw [Go.Lib.decDigits.eq_def n, dif_neg h]

theorem join_snoc (xs : List (List UInt8)) (y sep : List UInt8) : Go.Lib.join (xs ++ [y]) sep = if xs = [] then y else Go.Lib.join xs sep ++ sep ++ y := by
  cases xs with
  | nil => rw [if_pos rfl, List.nil_append, Go.Lib.join_one]
  | cons x r =>
    rw [if_neg (by simp), List.cons_append, Go.Lib.join_cons, Go.Lib.join_cons]
    unfold Go.Lib.joinTail
    simp
theorem nums_snoc (l : List Int) (sep : List UInt8) (i : Nat) (h : i < l.length) (n : Nat) (hn : l[i] = (n : Int)) : Hand.numsT (l.take (i + 1)) sep = if i = 0 then Go.Lib.decDigits n else Hand.numsT (l.take i) sep ++ sep ++ Go.Lib.decDigits n := by
  unfold Hand.numsT
  rw [List.take_succ_eq_append_getElem h, List.map_append, List.map_cons, List.map_nil, join_snoc, hn, Int.toNat_natCast]
  by_cases h0 : i = 0
  · subst h0; rw [if_pos rfl, List.take_zero, List.map_nil, if_pos rfl]
  · rw [if_neg h0, if_neg (by
      intro e
      have e2 := congrArg List.length e
      rw [List.length_map, List.length_take, List.length_nil] at e2
      omega)]

theorem trText_go (l : List Int) (hl : l.length ≤ 1000) (hb : ∀ j : Nat, (h : j < l.length) → ∃ n : Nat, l[j] = (n : Int) ∧ n ≤ 30) (d : Nat) : ∀ i : Nat, i + d = l.length → (Hand.numsT (l.take i) [45]).length ≤ 100 * i →
    Ev (fun k => spec_trText.l0 k (⟨(Hand.numsT (l.take i) [45]).toArray⟩ : ByteArray) l (l.length : Int) (i : Int)) (⟨(Hand.numsT l [45]).toArray⟩ : ByteArray) := by
  induction d with
  | zero =>
    intro i hi _
    obtain rfl : i = l.length := by omega
    rw [List.take_length]
    refine Ev.step (f := fun _ => some (⟨(Hand.numsT l [45]).toArray⟩ : ByteArray)) (fun k => ?_) (Ev.now _)
    simp only [spec_trText.l0]
    rw [if_neg (by omega)]
  | succ d ih =>
    intro i hi hlen
    have hlt : i < l.length := by omega
    obtain ⟨n, hn, hn30⟩ := hb i hlt
    have hw : wrap64 ((i : Int) + 1) = ((i + 1 : Nat) : Int) := wrap64_small (by omega) (by omega)
    have hs := nums_snoc l [45] i hlt n hn
    have hd := digs_le_ n
    have hsl : (⟨#[45]⟩ : ByteArray) = ⟨([45] : List UInt8).toArray⟩ := rfl
    have h1 := ih (i + 1) (by omega) (by
      rw [hs]
      split
      · omega
      · rw [List.length_append, List.length_append, List.length_singleton]; omega)
    have hrd : rd l (i : Int) = (n : Int) := by rw [rd_nat l i hlt, hn]
    by_cases h0 : i = 0
    · rw [if_pos h0] at hs
      rw [hs] at h1
      refine Ev.step (f := fun k => (spec_l1Num.f k (n : Int)).bind fun t => (if (⟨(Hand.numsT (l.take i) [45]).toArray⟩ : ByteArray).size + t.size ≤ 9223372036854775807 then (spec_trText.l0 k ((⟨(Hand.numsT (l.take i) [45]).toArray⟩ : ByteArray) ++ t) l (l.length : Int) ((i + 1 : Nat) : Int)) else (none))) (fun k => ?_) (Ev.bind (l1Num_ev n (by omega)) ?_)
      · simp only [spec_trText.l0]
        rw [if_pos (by omega), if_pos (by omega), if_pos (by omega), if_neg (by omega), hrd, hw]
      · unfold numB
        refine Ev.congr (fun k => if_pos (by rw [bsize, bsize]; omega)) ?_
        have e0 : Hand.numsT (l.take i) [45] = [] := by subst h0; rfl
        rw [bapp, e0, List.nil_append]
        exact h1
    · rw [if_neg h0] at hs
      rw [hs] at h1
      refine Ev.step (f := fun k => (spec_l1Num.f k (n : Int)).bind fun t => (if ((⟨(Hand.numsT (l.take i) [45]).toArray⟩ : ByteArray) ++ (⟨#[45]⟩ : ByteArray)).size + t.size ≤ 9223372036854775807 then (spec_trText.l0 k (((⟨(Hand.numsT (l.take i) [45]).toArray⟩ : ByteArray) ++ (⟨#[45]⟩ : ByteArray)) ++ t) l (l.length : Int) ((i + 1 : Nat) : Int)) else (none))) (fun k => ?_) (Ev.bind (l1Num_ev n (by omega)) ?_)
      · simp only [spec_trText.l0]
        rw [if_pos (by omega), if_pos (by omega), if_pos (by omega), if_pos (by omega), if_pos (by rw [bsize]; omega), hrd, hw]
      · unfold numB
        refine Ev.congr (fun k => if_pos (by rw [hsl, bapp, bsize, bsize, List.length_append, List.length_singleton]; omega)) ?_
        rw [hsl, bapp, bapp]
        exact h1

theorem rd_set (l : List Int) (i : Nat) (v : Int) (j : Int) (hj : 0 ≤ j) (hi : i < l.length) : rd (l.set i v) j = if j = (i : Int) then v else rd l j := by
  unfold rd
  by_cases h : j = (i : Int)
  · subst h
    simp [hi]
  · rw [if_neg h]
    have : i ≠ j.toNat := by omega
    simp [List.getD_eq_getElem?_getD, this]

theorem eqIntS_l0 (l : List Int) (hl : l.length < 1000000000000) (d : Nat) : ∀ (i : Int), 0 ≤ i → i ≤ l.length → (l.length : Int) - i = d → Ev (fun k => laws_eqIntS.l0 k l l i) true := by
  induction d with
  | zero =>
    intro i h0 h1 hd
    exact Ev.step (f := fun _ => some true) (fun k => by simp only [laws_eqIntS.l0]; rw [if_neg (by omega)]) (Ev.now _)
  | succ d ih =>
    intro i h0 h1 hd
    have hlt : i < (l.length : Int) := by omega
    have hw : wrap64 (i + 1) = i + 1 := wrap64_small (by omega) (by omega)
    exact Ev.step (f := fun k => laws_eqIntS.l0 k l l (i + 1)) (fun k => by simp only [laws_eqIntS.l0]; rw [if_pos hlt, if_pos h0, if_pos hlt, if_pos trivial, hw]) (ih (i + 1) (by omega) (by omega) (by omega))

theorem eqIntS_self (l : List Int) (hl : l.length < 1000000000000) : Ev (fun k => laws_eqIntS.f k l l) true :=
  Ev.congr (f := fun k => laws_eqIntS.l0 k l l 0) (fun k => by unfold laws_eqIntS.f; rw [if_pos rfl]) (eqIntS_l0 l hl l.length 0 (by omega) (by omega) (by omega))

theorem markIntS_l0 (n : Nat) (hn : n < 1000000000000) (a : Int) (ha0 : 0 ≤ a) (ha1 : a < 1000000000000) (d : Nat) : ∀ (x : List Int) (i : Int), x.length = n → 0 ≤ i → i ≤ n → (n : Int) - i = d → (∀ j : Int, 0 ≤ j → j < i → rd x j = a + j) →
    ∃ r, Ev (fun k => laws_markIntS.l0 k x (a + i) i) (a + n, r) ∧ r.length = n ∧ ∀ j : Int, 0 ≤ j → j < n → rd r j = a + j := by
  induction d with
  | zero =>
    intro x i hx h0 h1 hd hj
    have hi : i = n := by omega
    subst hi
    exact ⟨x, Ev.step (f := fun _ => some (a + n, x)) (fun k => by simp only [laws_markIntS.l0]; rw [if_neg (by omega)]) (Ev.now _), hx, hj⟩
  | succ d ih =>
    intro x i hx h0 h1 hd hj
    have hlt : i < (x.length : Int) := by omega
    have hw : wrap64 (i + 1) = i + 1 := wrap64_small (by omega) (by omega)
    have hw2 : wrap64 (a + i + 1) = a + (i + 1) := by rw [wrap64_small (by omega) (by omega)]; omega
    obtain ⟨r, hr, hl, hv⟩ := ih (x.set i.toNat (a + i)) (i + 1) (by simp [hx]) (by omega) (by omega) (by omega) (fun j h0j hji => by
      rw [rd_set _ _ _ _ h0j (by omega)]
      by_cases e : j = (i.toNat : Int)
      · rw [if_pos e]; omega
      · rw [if_neg e]; exact hj j h0j (by omega))
    exact ⟨r, Ev.step (f := fun k => laws_markIntS.l0 k (x.set i.toNat (a + i)) (a + (i + 1)) (i + 1)) (fun k => by simp only [laws_markIntS.l0]; rw [if_pos hlt, if_pos h0, hw, hw2]) hr, hl, hv⟩

theorem heldIntS_l0 (r : List Int) (hn : r.length < 1000000000000) (a : Int) (ha0 : 0 ≤ a) (ha1 : a < 1000000000000) (hv : ∀ j : Int, 0 ≤ j → j < r.length → rd r j = a + j) (d : Nat) : ∀ (i : Int), 0 ≤ i → i ≤ r.length → (r.length : Int) - i = d →
    Ev (fun k => laws_heldIntS.l0 k r (a + i) i) (a + r.length) := by
  induction d with
  | zero =>
    intro i h0 h1 hd
    have hi : i = r.length := by omega
    subst hi
    exact Ev.step (f := fun _ => some (a + r.length)) (fun k => by simp only [laws_heldIntS.l0]; rw [if_neg (by omega)]) (Ev.now _)
  | succ d ih =>
    intro i h0 h1 hd
    have hlt : i < (r.length : Int) := by omega
    have hw : wrap64 (i + 1) = i + 1 := wrap64_small (by omega) (by omega)
    have hw2 : wrap64 (a + i + 1) = a + (i + 1) := by rw [wrap64_small (by omega) (by omega)]; omega
    exact Ev.step (f := fun k => laws_heldIntS.l0 k r (a + (i + 1)) (i + 1)) (fun k => by simp only [laws_heldIntS.l0]; rw [if_pos hlt, if_pos h0, if_pos (hv i h0 hlt), hw, hw2]) (ih (i + 1) (by omega) (by omega) (by omega))

theorem mark_held (l : List Int) (hl : l.length < 1000000000) : ∃ r, Ev (fun k => laws_markIntS.f k l 101) (101 + (l.length : Int), r) ∧ Ev (fun k => laws_heldIntS.f k r 101) (101 + (l.length : Int)) ∧ r.length = l.length := by
  obtain ⟨r, h1, h2, h3⟩ := markIntS_l0 l.length (by omega) 101 (by omega) (by omega) l.length l 0 rfl (by omega) (by omega) (by omega) (fun j _ _ => by omega)
  refine ⟨r, h1, ?_, h2⟩
  have := heldIntS_l0 r (by omega) 101 (by omega) (by omega) (fun j h0 h1 => h3 j h0 (by omega)) r.length 0 (by omega) (by omega) (by omega)
  rw [h2] at this
  exact this

theorem bt_data (s : ByteArray) (i : Nat) (h : i < s.data.toList.length) : bt s (i : Int) = ((s.data.toList[i]).toNat : Int) := by
  have h2 : i < s.size := by rw [Go.Lib.size_eq]; exact h
  unfold bt
  rw [dif_pos (by rw [Int.toNat_natCast]; exact h2)]
  congr 2
theorem l1Read_go (s : ByteArray) (hs : s.data.toList.length ≤ 6) (d : Nat) : ∀ i : Nat, i + d = s.data.toList.length → (s.data.toList.take i).all Hand.isDig = true →
    Ev (fun k => spec_l1Read.l0 k s (Hand.val (s.data.toList.take i) : Int) (i : Int)) (if s.data.toList.all Hand.isDig = true then (Hand.val s.data.toList : Int) else -1) := by
  induction d with
  | zero =>
    intro i hi ha
    have e : s.data.toList.take i = s.data.toList := List.take_of_length_le (by omega)
    rw [e] at ha ⊢
    rw [if_pos ha]
    refine Ev.step (f := fun _ => some (Hand.val s.data.toList : Int)) (fun k => ?_) (Ev.now _)
    simp only [spec_l1Read.l0]
    rw [if_neg (by rw [Go.Lib.size_eq]; omega)]
  | succ d ih =>
    intro i hi ha
    have hlt : i < s.data.toList.length := by omega
    have hb := bt_data s i hlt
    have hw : wrap64 ((i : Int) + 1) = ((i + 1 : Nat) : Int) := wrap64_small (by omega) (by omega)
    have hsz : (i : Int) < (s.size : Int) := by rw [Go.Lib.size_eq]; omega
    have hdig : s.data.toList.all Hand.isDig = true → 48 ≤ (s.data.toList[i]).toNat ∧ (s.data.toList[i]).toNat ≤ 57 := fun h => (Hand.isDig_iff _).1 (List.all_eq_true.1 h _ (List.getElem_mem hlt))
    have hl255 := (s.data.toList[i]).toNat_lt
    by_cases c1 : bt s (i : Int) < 48
    · refine Ev.step (f := fun _ => some (-1 : Int)) (fun k => ?_) ?_
      · simp only [spec_l1Read.l0]; rw [if_pos hsz, if_pos (by omega), if_pos c1]
      · rw [if_neg (fun h => by have := hdig h; omega)]; exact Ev.now _
    · by_cases c2 : bt s (i : Int) > 57
      · refine Ev.step (f := fun _ => some (-1 : Int)) (fun k => ?_) ?_
        · simp only [spec_l1Read.l0]; rw [if_pos hsz, if_pos (by omega), if_neg c1, if_pos c2]
        · rw [if_neg (fun h => by have := hdig h; omega)]; exact Ev.now _
      · have hd1 : Hand.isDig (s.data.toList[i]) = true := (Hand.isDig_iff _).2 (by omega)
        have ht : s.data.toList.take (i + 1) = s.data.toList.take i ++ [s.data.toList[i]] := List.take_succ_eq_append_getElem hlt
        have hv := Hand.val_lt _ ha
        have hp : 10 ^ (s.data.toList.take i).length ≤ 10 ^ 6 := Nat.pow_le_pow_right (by omega) (by rw [List.length_take]; omega)
        have h1 := ih (i + 1) (by omega) (by rw [ht, List.all_append, ha, List.all_cons, hd1]; rfl)
        rw [ht, Hand.val_snoc] at h1
        have hw1 : wrap64 (10 * (Hand.val (s.data.toList.take i) : Int)) = 10 * (Hand.val (s.data.toList.take i) : Int) := wrap64_small (by omega) (by omega)
        have hw2 : wrap64 (10 * (Hand.val (s.data.toList.take i) : Int) + (bt s (i : Int) - 48) % 256) = ((Hand.val (s.data.toList.take i) * 10 + ((s.data.toList[i]).toNat - 48) : Nat) : Int) := by rw [wrap64_small (by omega) (by omega)]; omega
        refine Ev.step (f := fun k => spec_l1Read.l0 k s ((Hand.val (s.data.toList.take i) * 10 + ((s.data.toList[i]).toNat - 48) : Nat) : Int) ((i + 1 : Nat) : Int)) (fun k => ?_) h1
        simp only [spec_l1Read.l0]
        rw [if_pos hsz, if_pos (by omega), if_neg c1, if_neg c2, hw1, hw2, hw]
theorem l1Read_ev (s : ByteArray) : Ev (fun k => spec_l1Read.f k s) (Hand.readNum s.data.toList) := by
  have hsz := Go.Lib.size_eq s
  by_cases h : 1 ≤ s.data.toList.length ∧ s.data.toList.length ≤ 6
  · have hg := l1Read_go s h.2 s.data.toList.length 0 (by omega) rfl
    rw [List.take_zero] at hg
    have hne : s.data.toList ≠ [] := fun e => by rw [e] at h; simp at h
    obtain ⟨c, r, hcr⟩ := List.exists_cons_of_ne_nil hne
    have hb : bt s 0 = (c.toNat : Int) := by
      have := bt_data s 0 (by omega)
      rw [show ((0 : Nat) : Int) = 0 from rfl] at this
      rw [this]
      congr 2
      simp [hcr]
    have hcan : Hand.readNum s.data.toList = if ((c.toNat = 48) ∧ r ≠ []) then -1 else (if s.data.toList.all Hand.isDig = true then (Hand.val s.data.toList : Int) else -1) := by
      have hA : Hand.canon s.data.toList = (s.data.toList.all Hand.isDig && (r.isEmpty || decide (c.toNat ≠ 48))) := by rw [hcr]; rfl
      unfold Hand.readNum
      rw [hA]
      have h6 := h.2
      generalize s.data.toList.all Hand.isDig = D
      generalize Hand.val s.data.toList = V
      generalize s.data.toList.length = n at h6
      by_cases c1 : c.toNat = 48 <;> by_cases c2 : r = [] <;> cases D <;> simp [c1, c2, h6]
    rw [hcan]
    have hrl : r ≠ [] ↔ (s.size : Int) > 1 := by
      rw [hsz, hcr, List.length_cons]
      cases r with
      | nil => simp
      | cons x y => simp; omega
    by_cases c1 : bt s 0 = 48
    · by_cases c2 : (s.size : Int) > 1
      · rw [if_pos ⟨by omega, hrl.2 c2⟩]
        refine Ev.congr (f := fun k => spec_l1Read.j0 k s true) (fun k => ?_) (Ev.step (f := fun _ => some (-1 : Int)) (fun k => ?_) (Ev.now _))
        · unfold spec_l1Read.f
          rw [l1In_yes (by omega), Option.bind_some, if_pos rfl, if_pos (by omega), if_pos c1, decide_eq_true c2]
        · simp only [spec_l1Read.j0]; rw [if_pos trivial]
      · rw [if_neg (fun h2 => c2 (hrl.1 h2.2))]
        refine Ev.congr (f := fun k => spec_l1Read.j0 k s false) (fun k => ?_) (Ev.step (f := fun k => spec_l1Read.l0 k s 0 0) (fun k => ?_) hg)
        · unfold spec_l1Read.f
          rw [l1In_yes (by omega), Option.bind_some, if_pos rfl, if_pos (by omega), if_pos c1, decide_eq_false c2]
        · simp only [spec_l1Read.j0]; rw [if_neg (by simp)]
    · rw [if_neg (fun h2 => c1 (by omega))]
      refine Ev.congr (f := fun k => spec_l1Read.j0 k s false) (fun k => ?_) (Ev.step (f := fun k => spec_l1Read.l0 k s 0 0) (fun k => ?_) hg)
      · unfold spec_l1Read.f
        rw [l1In_yes (by omega), Option.bind_some, if_pos rfl, if_pos (by omega), if_neg c1]
      · simp only [spec_l1Read.j0]; rw [if_neg (by simp)]
  · have hr : Hand.readNum s.data.toList = -1 := by
      unfold Hand.readNum
      rw [if_neg]
      rintro ⟨h1, h2⟩
      refine h ⟨?_, h2⟩
      cases e : s.data.toList with
      | nil => rw [e] at h1; cases h1
      | cons c r => simp
    rw [hr]
    refine Ev.congr (f := fun k => spec_l1Read.j0 k s true) (fun k => ?_) (Ev.step (f := fun _ => some (-1 : Int)) (fun k => ?_) (Ev.now _))
    · unfold spec_l1Read.f
      rw [l1In_no (by omega), Option.bind_some, if_ff]
    · simp only [spec_l1Read.j0]; rw [if_pos trivial]
theorem l1Split_go (s : ByteArray) (c : UInt8) (hs : s.data.toList.length ≤ 1000000) (d : Nat) : ∀ (i fr : Nat) (out : List ByteArray), i + d = s.data.toList.length → fr ≤ i → out.length ≤ i → c ∉ (s.data.toList.drop fr).take (i - fr) →
    ∃ ws : List ByteArray, ws.map (·.data.toList) = Hand.cutAt c (s.data.toList.drop fr) ∧ Ev (fun k => spec_l1Split.l0 k s (c.toNat : Int) out (fr : Int) (i : Int)) (out ++ ws) := by
  have hsz := Go.Lib.size_eq s
  induction d with
  | zero =>
    intro i fr out hi hf ho hn
    have e : (s.data.toList.drop fr).take (i - fr) = s.data.toList.drop fr := List.take_of_length_le (by rw [List.length_drop]; omega)
    rw [e] at hn
    refine ⟨[s.extract fr s.size], ?_, Ev.step (f := fun _ => some (out ++ [s.extract fr s.size])) (fun k => ?_) (Ev.now _)⟩
    · rw [List.map_cons, List.map_nil, Go.Lib.extract_to_end, Hand.cutAt_last c _ hn]
    · simp only [spec_l1Split.l0]
      rw [if_neg (by omega), if_pos (by omega), if_pos (by omega), if_pos (by omega), Int.toNat_natCast]
  | succ d ih =>
    intro i fr out hi hf ho hn
    have hlt : i < s.data.toList.length := by omega
    have hb := bt_data s i hlt
    have hw : wrap64 ((i : Int) + 1) = ((i + 1 : Nat) : Int) := wrap64_small (by omega) (by omega)
    by_cases hc : s.data.toList[i] = c
    · obtain ⟨ws, h1, h2⟩ := ih (i + 1) (i + 1) (out ++ [s.extract fr i]) (by omega) (Nat.le_refl _) (by rw [List.length_append, List.length_singleton]; omega) (by rw [Nat.sub_self, List.take_zero]; simp)
      refine ⟨s.extract fr i :: ws, ?_, Ev.step (f := fun k => spec_l1Split.l0 k s (c.toNat : Int) (out ++ [s.extract fr i]) ((i + 1 : Nat) : Int) ((i + 1 : Nat) : Int)) (fun k => ?_) ?_⟩
      · rw [List.map_cons, h1, Go.Lib.extract_data]
        have e : s.data.toList.drop fr = (s.data.toList.drop fr).take (i - fr) ++ c :: s.data.toList.drop (i + 1) := by
          have h3 : (s.data.toList.drop fr).drop (i - fr) = c :: s.data.toList.drop (i + 1) := by
            rw [List.drop_drop, show fr + (i - fr) = i by omega, List.drop_eq_getElem_cons hlt, hc]
          rw [← h3, List.take_append_drop]
        have h4 := Hand.cutAt_word c ((s.data.toList.drop fr).take (i - fr)) (s.data.toList.drop (i + 1)) hn
        rw [← e] at h4
        exact h4.symm
      · simp only [spec_l1Split.l0]
        rw [if_pos (by omega), if_pos (by omega), if_pos (by rw [hb, hc]), if_pos (by omega), if_pos (by omega), if_pos (by omega), if_pos (by omega), Int.toNat_natCast, Int.toNat_natCast, hw]
      · rw [List.append_assoc, List.singleton_append] at h2
        exact h2
    · obtain ⟨ws, h1, h2⟩ := ih (i + 1) fr out (by omega) (by omega) (by omega) (by
        rw [show i + 1 - fr = (i - fr) + 1 by omega, List.take_succ_eq_append_getElem (by rw [List.length_drop]; omega), List.mem_append, List.mem_singleton, List.getElem_drop]
        rintro (h | h)
        · exact hn h
        · refine hc ?_
          have e : fr + (i - fr) = i := by omega
          simp only [e] at h
          exact h.symm)
      refine ⟨ws, h1, Ev.step (f := fun k => spec_l1Split.l0 k s (c.toNat : Int) out (fr : Int) ((i + 1 : Nat) : Int)) (fun k => ?_) h2⟩
      simp only [spec_l1Split.l0]
      rw [if_pos (by omega), if_pos (by omega), if_neg (by rw [hb]; intro e; exact hc (UInt8.toNat_inj.1 (by omega))), hw]
theorem l1Split_ev (s : ByteArray) (c : UInt8) (hs : s.size ≤ 1000000) : ∃ ws : List ByteArray, ws.map (·.data.toList) = Hand.cutAt c s.data.toList ∧ Ev (fun k => spec_l1Split.f k s (c.toNat : Int)) ws := by
  have hsz := Go.Lib.size_eq s
  obtain ⟨ws, h1, h2⟩ := l1Split_go s c (by omega) s.data.toList.length 0 0 [] (by omega) (Nat.le_refl _) (Nat.zero_le _) (by simp)
  rw [List.drop_zero] at h1
  rw [List.nil_append] at h2
  exact ⟨ws, h1, h2⟩
theorem Ev.same {α : Type} {g : Nat → Option α} {a b : α} (h1 : Ev g a) (h2 : Ev g b) : a = b := by
  obtain ⟨K, h1⟩ := h1
  obtain ⟨K', h2⟩ := h2
  exact Option.some.inj ((h1 (max K K') (Nat.le_max_left ..)).symm.trans (h2 (max K K') (Nat.le_max_right ..)))

theorem mark_ev (l : List Int) (hl : l.length < 1000000000) (a : Int) (h0 : 0 ≤ a) (h1 : a < 1000000000000) : ∃ r, Ev (fun k => laws_markIntS.f k l a) (a + (l.length : Int), r) := by
  obtain ⟨r, h2, _⟩ := markIntS_l0 l.length (by omega) a h0 h1 l.length l 0 rfl (by omega) (by omega) (by omega) (fun j _ _ => by omega)
  rw [Int.add_zero] at h2
  exact ⟨r, h2⟩
theorem readNumbers_some (s : ByteArray) (hs : s.size ≤ 1000000) (c : UInt8) : impl_readNumbers.f s (⟨#[c]⟩ : ByteArray) = some (Hand.rnRes (Hand.cutAt c s.data.toList)) := by
  unfold impl_readNumbers.f
  rw [if_pos ⟨hs, rfl⟩]
  rfl
theorem rn_cases (xs : List (List UInt8)) : (Hand.rnRes xs = ([], false)) ∨ (Hand.rnRes xs = (Hand.rnVals xs, true) ∧ ∀ x ∈ xs, ∃ v, Hand.wordNum x = some v) := by
  by_cases h : xs.all (fun x => (Hand.wordNum x).isSome) = true
  · refine .inr ⟨by unfold Hand.rnRes; rw [if_pos h], fun x hx => Option.isSome_iff_exists.1 (List.all_eq_true.1 h x hx)⟩
  · exact .inl (by unfold Hand.rnRes; rw [if_neg h])
/-- What the reference reads. -/
def reads (xs : List (List UInt8)) : List Int := xs.map Hand.readNum
theorem reads_len (xs : List (List UInt8)) : (reads xs).length = xs.length := List.length_map ..
theorem reads_words (xs : List (List UInt8)) (h : ∀ x ∈ xs, 0 ≤ Hand.readNum x) : Hand.rnRes xs = (reads xs, true) := by
  have hw : ∀ x ∈ xs, Hand.wordNum x = some (Hand.readNum x) := fun x hx => (Hand.readNum_of (l := x) rfl (h x hx)).1
  unfold Hand.rnRes
  rw [if_pos (List.all_eq_true.2 fun x hx => by rw [hw x hx]; rfl)]
  unfold Hand.rnVals reads
  congr 1
  refine List.map_congr_left fun x hx => ?_
  rw [hw x hx]; rfl
theorem vals_reads (xs : List (List UInt8)) (h : ∀ x ∈ xs, ∃ v, Hand.wordNum x = some v) (hb : ∀ v ∈ Hand.rnVals xs, 0 ≤ v ∧ v < 1000000) : reads xs = Hand.rnVals xs := by
  unfold reads Hand.rnVals
  refine List.map_congr_left fun x hx => ?_
  obtain ⟨v, hv⟩ := h x hx
  have h1 := hb v (by unfold Hand.rnVals; exact List.mem_map.2 ⟨x, hx, by rw [hv]; rfl⟩)
  rw [hv]
  exact Hand.readNum_to hv h1.1 h1.2
theorem rd_mem {l : List Int} {P : Int → Prop} (h : ∀ j : Nat, j < l.length → P (rd l (j : Int))) : ∀ v ∈ l, P v := by
  intro v hv
  obtain ⟨j, hj, rfl⟩ := List.getElem_of_mem hv
  have := h j hj
  rw [rd_nat l j hj] at this
  exact this
/-- The words of a text whose numbers lie between bounds are their numerals. -/
theorem reads_text (xs : List (List UInt8)) (h : ∀ v ∈ reads xs, 0 ≤ v) (sep : List UInt8) : Hand.numsT (reads xs) sep = Go.Lib.join xs sep := by
  unfold Hand.numsT reads
  congr 1
  rw [List.map_map]
  refine (List.map_congr_left fun x hx => ?_).trans (List.map_id xs)
  have h0 := h (Hand.readNum x) (List.mem_map.2 ⟨x, hx, rfl⟩)
  exact (Hand.wordNum_nat _ _ (Hand.readNum_of (l := x) rfl h0).1 h0).1.symm
theorem join_le (xs : List (List UInt8)) (m : Nat) (h : ∀ x ∈ xs, x.length ≤ m) (c : UInt8) : (Go.Lib.join xs [c]).length ≤ xs.length * (m + 1) := by
  cases xs with
  | nil => simp [Go.Lib.join_nil]
  | cons a r =>
    have h2 : ∀ r : List (List UInt8), (∀ x ∈ r, x.length ≤ m) → (Go.Lib.joinTail [c] r).length ≤ r.length * (m + 1) := by
      intro r
      induction r with
      | nil => intro _; simp [Go.Lib.joinTail]
      | cons b q ih =>
        intro hq
        have h3 := ih fun x hx => hq x (List.mem_cons_of_mem _ hx)
        have h4 := hq b (List.mem_cons_self ..)
        unfold Go.Lib.joinTail at h3 ⊢
        rw [List.map_cons, List.flatten_cons, List.length_append, List.length_append, List.length_singleton, List.length_cons, Nat.add_mul, Nat.one_mul]
        omega
    have h3 := h2 r fun x hx => h x (List.mem_cons_of_mem _ hx)
    have h4 := h a (List.mem_cons_self ..)
    rw [Go.Lib.join_cons, List.length_append, List.length_cons, Nat.add_mul, Nat.one_mul]
    omega
theorem word_le (x : List UInt8) (h0 : 0 ≤ Hand.readNum x) (k : Nat) (hk : 1 ≤ k) (h1 : (Hand.readNum x).toNat < 10 ^ k) : x.length ≤ k := by
  have h2 := (Hand.wordNum_nat _ _ (Hand.readNum_of (l := x) rfl h0).1 h0).1
  have h3 := congrArg List.length h2
  rw [Go.Lib.decDigits_length] at h3
  have := Hand.ndig_le (Hand.readNum x).toNat k hk h1
  omega
theorem parse_l0 (s : ByteArray) (ws : List ByteArray) (hl : ws.length ≤ 1000001) (r : List Int × Bool) (h : Ev (fun k => spec_ParseTree.j1 k s (ws.map fun w => Hand.readNum w.data.toList)) r) (d : Nat) : ∀ i : Nat, i + d = ws.length →
    Ev (fun k => spec_ParseTree.l0 k s ((ws.take i).map fun w => Hand.readNum w.data.toList) ws (ws.length : Int) (i : Int)) r := by
  induction d with
  | zero =>
    intro i hi
    rw [List.take_of_length_le (by omega)]
    refine Ev.step (f := fun k => spec_ParseTree.j1 k s (ws.map fun w => Hand.readNum w.data.toList)) (fun k => ?_) h
    simp only [spec_ParseTree.l0]
    rw [if_neg (by omega)]
  | succ d ih =>
    intro i hi
    have hlt : i < ws.length := by omega
    have hw : wrap64 ((i : Int) + 1) = ((i + 1 : Nat) : Int) := wrap64_small (by omega) (by omega)
    have hrd : rdOf ByteArray.empty ws (i : Int) = ws[i] := by unfold rdOf; rw [Int.toNat_natCast, List.getD_eq_getElem?_getD, List.getElem?_eq_getElem hlt]; rfl
    have h1 := ih (i + 1) (by omega)
    rw [List.take_succ_eq_append_getElem hlt, List.map_append, List.map_cons, List.map_nil] at h1
    refine Ev.step (f := fun k => (spec_l1Read.f k ws[i]).bind fun t132 => (if ((ws.take i).map fun w => Hand.readNum w.data.toList).length < 17592186044416 then (spec_ParseTree.l0 k s (((ws.take i).map fun w => Hand.readNum w.data.toList) ++ [t132]) ws (ws.length : Int) ((i + 1 : Nat) : Int)) else (none))) (fun k => ?_) (Ev.bind (l1Read_ev ws[i]) (Ev.congr (fun k => if_pos (by rw [List.length_map, List.length_take]; omega)) h1))
    simp only [spec_ParseTree.l0]
    rw [if_pos (by omega), if_pos (by omega), if_pos (by omega), hrd, hw]
theorem tree_both2 (s : ByteArray) (hs : s.size ≤ 1000000) : ∃ r : List Int × Bool, r.1.length ≤ 1000001 ∧ Ev (fun k => spec_ParseTree.f k s) r ∧ Ev (fun k => impl_ParseTree.f k s) r := by
  have hsz := Go.Lib.size_eq s
  by_cases he : s.data.toList = []
  · obtain ⟨g, g1, g2, _⟩ := isTree_both []
    have hg : g = true := by
      refine Ev.same g2 (Ev.congr (f := fun k => (impl_treeEnd.f k [] 0 1 0).bind fun t => (some (t == 0))) (fun k => ?_) (Ev.bind (a := 0) (Ev.step (f := fun _ => some 0) (fun k => ?_) (Ev.now _)) (Ev.now _)))
      · unfold impl_IsTree.f; rw [if_pos (by simp)]; rfl
      · simp only [impl_treeEnd.f]; rw [if_pos (by omega)]
    subst hg
    refine ⟨([], true), by simp, ?_, ?_⟩
    · unfold spec_ParseTree.f
      have h0 : s.size = 0 := by rw [hsz, he]; rfl
      refine Ev.congr (fun k => if_neg (by omega)) (Ev.congr (fun k => if_neg (by omega)) ?_)
      refine Ev.step (f := fun k => (spec_trIs.f k []).bind fun t136 => (if t136 = true then ((spec_trText.f k []).bind fun t137 => (if t137.toList = s.toList then (some (([] : List Int), true)) else (some (([] : List Int), false)))) else (some (([] : List Int), false)))) (fun k => rfl) (Ev.bind g1 (Ev.congr (fun k => if_pos rfl) ?_))
      have ht := trText_go [] (by simp) (fun j h => absurd h (Nat.not_lt_zero _)) 0 0 rfl (by decide)
      refine Ev.bind (a := (⟨(Hand.numsT [] [45]).toArray⟩ : ByteArray)) (Ev.congr (fun k => rfl) ht) (Ev.congr (fun k => if_pos ?_) (Ev.now _))
      rw [Go.Lib.toList_data, Go.Lib.toList_data, he]
      rfl
    · unfold impl_ParseTree.f
      exact Ev.congr (fun k => if_pos (by rw [Go.Lib.toList_data]; exact he)) (Ev.now _)
  · have hpos : 0 < s.data.toList.length := by
      cases h : s.data.toList with
      | nil => exact absurd h he
      | cons a r => simp
    obtain ⟨ws, hws, hsp⟩ := l1Split_ev s 45 hs
    have h45 : ((45 : UInt8).toNat : Int) = 45 := rfl
    rw [h45] at hsp
    have hjoin := Hand.cutAt_join 45 s.data.toList
    have hxl : (Hand.cutAt 45 s.data.toList).length ≤ 1000001 := by
      rw [Hand.cutAt_len]
      have : List.count 45 s.data.toList ≤ s.data.toList.length := List.count_le_length
      omega
    have hR : (ws.map fun w => Hand.readNum w.data.toList) = reads (Hand.cutAt 45 s.data.toList) := by
      unfold reads; rw [← hws, List.map_map]; rfl
    have hwl : ws.length = (Hand.cutAt 45 s.data.toList).length := by rw [← hws, List.length_map]
    have hspec : ∀ r, Ev (fun k => spec_ParseTree.j1 k s (reads (Hand.cutAt 45 s.data.toList))) r → s.size ≤ 100 → Ev (fun k => spec_ParseTree.f k s) r := by
      intro r hr h100
      rw [← hR] at hr
      have h1 := parse_l0 s ws (by omega) r hr ws.length 0 (by omega)
      rw [List.take_zero, List.map_nil] at h1
      unfold spec_ParseTree.f
      exact Ev.congr (fun k => if_neg (by omega)) (Ev.congr (fun k => if_pos (by omega)) (Ev.bind hsp h1))
    have himpl : ∀ r, Ev (fun k => if (Hand.rnRes (Hand.cutAt 45 s.data.toList)).2 = true then ((impl_IsTree.f k (Hand.rnRes (Hand.cutAt 45 s.data.toList)).1).bind fun t154 => (if t154 = true then (some ((Hand.rnRes (Hand.cutAt 45 s.data.toList)).1, true)) else (some (([] : List Int), false)))) else (some (([] : List Int), false))) r → Ev (fun k => impl_ParseTree.f k s) r := by
      intro r hr
      unfold impl_ParseTree.f
      refine Ev.congr (fun k => if_neg (by rw [Go.Lib.toList_data]; exact he)) (Ev.congr (fun k => ?_) hr)
      rw [readNumbers_some s hs 45, Option.bind_some]
    generalize Hand.cutAt 45 s.data.toList = xs at *
    obtain ⟨g, g1, g2, g3⟩ := isTree_both (reads xs)
    cases g with
    | true =>
      obtain ⟨h30, hb⟩ := g3 rfl
      have hb2 := rd_mem (P := fun v => 1 ≤ v ∧ v ≤ 30) hb
      have hrn := reads_words xs fun x hx => by have := hb2 (Hand.readNum x) (List.mem_map.2 ⟨x, hx, rfl⟩); omega
      have htx := reads_text xs (fun v hv => by have := hb2 v hv; omega) [45]
      rw [hjoin] at htx
      have hwl2 : ∀ x ∈ xs, x.length ≤ 2 := fun x hx => by
        have := hb2 (Hand.readNum x) (List.mem_map.2 ⟨x, hx, rfl⟩)
        exact word_le x (by omega) 2 (by omega) (by omega)
      have hjl := join_le xs 2 hwl2 45
      rw [hjoin] at hjl
      rw [reads_len] at h30
      refine ⟨(reads xs, true), by show (reads xs).length ≤ 1000001; rw [reads_len]; omega, hspec _ ?_ (by omega), himpl _ ?_⟩
      · refine Ev.step (f := fun k => (spec_trIs.f k (reads xs)).bind fun t136 => (if t136 = true then ((spec_trText.f k (reads xs)).bind fun t137 => (if t137.toList = s.toList then (some (reads xs, true)) else (some (([] : List Int), false)))) else (some (([] : List Int), false)))) (fun k => rfl) (Ev.bind g1 (Ev.congr (fun k => if_pos rfl) ?_))
        have hb3 : ∀ j : Nat, (h : j < (reads xs).length) → ∃ n : Nat, (reads xs)[j] = (n : Int) ∧ n ≤ 30 := fun j h => by
          have h2 := hb2 _ (List.getElem_mem h)
          exact ⟨((reads xs)[j]).toNat, by omega, by omega⟩
        have ht := trText_go (reads xs) (by rw [reads_len]; omega) hb3 (reads xs).length 0 (by omega) (Nat.zero_le _)
        rw [htx] at ht
        refine Ev.bind (a := (⟨s.data.toList.toArray⟩ : ByteArray)) (Ev.congr (fun k => rfl) ht) (Ev.congr (fun k => if_pos ?_) (Ev.now _))
        rw [Go.Lib.toList_data]
      · rw [hrn]
        exact Ev.congr (fun k => if_pos rfl) (Ev.bind g2 (Ev.congr (fun k => if_pos rfl) (Ev.now _)))
    | false =>
      refine ⟨([], false), by simp, ?_, himpl _ ?_⟩
      · by_cases h100 : s.size ≤ 100
        · refine hspec _ ?_ h100
          exact Ev.step (f := fun k => (spec_trIs.f k (reads xs)).bind fun t136 => (if t136 = true then ((spec_trText.f k (reads xs)).bind fun t137 => (if t137.toList = s.toList then (some (reads xs, true)) else (some (([] : List Int), false)))) else (some (([] : List Int), false)))) (fun k => rfl) (Ev.bind g1 (Ev.congr (fun k => if_ff _ _) (Ev.now _)))
        · unfold spec_ParseTree.f
          exact Ev.congr (fun k => if_pos (by omega)) (Ev.now _)
      · rcases rn_cases xs with hr | ⟨hr, hw⟩
        · rw [hr]; exact Ev.congr (fun k => if_ff _ _) (Ev.now _)
        · rw [hr]
          obtain ⟨q, q1, q2, q3⟩ := isTree_both (Hand.rnVals xs)
          cases q with
          | true =>
            obtain ⟨_, hb⟩ := q3 rfl
            have hb2 := rd_mem (P := fun v => 1 ≤ v ∧ v ≤ 30) hb
            have he2 := vals_reads xs hw fun v hv => by have := hb2 v hv; omega
            rw [he2] at g2
            have := Ev.same q2 g2
            cases this
          | false => exact Ev.congr (fun k => if_pos rfl) (Ev.bind q2 (Ev.congr (fun k => if_ff _ _) (Ev.now _)))
theorem FnExactParseTree : ∀ (a0 : ByteArray), ∃ k, laws_FnExactParseTree.f k a0 = some true := by
  intro a0
  apply Ev.rounds
  unfold laws_FnExactParseTree.f
  by_cases h : (a0.size : Int) > 1000000
  · exact Ev.congr (fun k => if_pos h) (Ev.now _)
  · refine Ev.congr (fun k => if_neg h) ?_
    obtain ⟨r, hrl, hs, hi⟩ := tree_both2 a0 (by omega)
    obtain ⟨mr, hmk, hh, _⟩ := mark_held r.1 (by omega)
    have heq := eqIntS_self r.1 (by omega)
    refine Ev.bind hs ?_
    refine Ev.bind hi ?_
    refine Ev.bind heq ?_
    refine Ev.congr (fun k => if_pos rfl) ?_
    refine Ev.congr (fun k => if_neg (by simp)) ?_
    refine Ev.bind hmk ?_
    refine Ev.bind hh ?_
    refine Ev.congr (fun k => if_neg (by omega)) ?_
    refine Ev.congr (fun k => if_pos rfl) ?_
    refine Ev.bind hi ?_
    refine Ev.bind heq ?_
    refine Ev.congr (fun k => if_pos rfl) ?_
    refine Ev.congr (fun k => if_neg (by simp)) ?_
    refine Ev.bind hh ?_
    refine Ev.congr (fun k => if_neg (by omega)) ?_
    refine Ev.congr (fun k => if_pos rfl) ?_
    exact Ev.now _

end Go.Proofs.YtbgmhdlmhncdcaaDoor.Pure
