/- The program's TreeText answers as the reference's does, and leaves the row that it is given alone, for every list; no conditions. -/
import Derived.Test.YtbgmhdlmhncdcaaDoorQFnExactTreeTextx4
namespace Go.Proofs.YtbgmhdlmhncdcaaDoor.Pure
open Go.RowKit Go.Proofs.YtbgmhdlmhncdcaaDoor.QFnExactTreeText Go.Proofs.YtbgmhdlmhncdcaaDoorW.PrintWords Go.Proofs.YtbgmhdlmhncdcaaDoorW.PrintLast
set_option linter.unusedVariables false

theorem wrap64_small {x : Int} (h0 : -9223372036854775808 ≤ x) (h1 : x < 9223372036854775808) : wrap64 x = x := by
  unfold wrap64; omega
theorem l1In_some (a b c : Int) : spec_l1In.f a b c = some (decide (b ≤ a ∧ a ≤ c)) := by
  unfold spec_l1In.f
  by_cases h : a ≥ b
  · rw [if_pos h]; congr 1; rw [Bool.eq_iff_iff]; simp; omega
  · rw [if_neg h]; congr 1; symm; rw [decide_eq_false_iff_not]; omega
theorem l1In_yes {a b c : Int} (h : b ≤ a ∧ a ≤ c) : spec_l1In.f a b c = some true := by rw [l1In_some, decide_eq_true h]
theorem l1In_no {a b c : Int} (h : ¬ (b ≤ a ∧ a ≤ c)) : spec_l1In.f a b c = some false := by rw [l1In_some, decide_eq_false h]
theorem if_ff {α : Type} (x y : α) : (if false = true then x else y) = y := if_neg (by decide)

theorem inn_dec (a b c : Int) : Hand.inn a b c = decide (b ≤ a ∧ a ≤ c) := by unfold Hand.inn; rw [Bool.decide_and]
theorem inn_some (a b c : Int) : spec_l1In.f a b c = some (Hand.inn a b c) := by rw [l1In_some, inn_dec]
theorem rd_nat (l : List Int) (i : Nat) (h : i < l.length) : rd l (i : Int) = l[i] := by unfold rd; simp [h]

theorem within_some (a b c : Int) : impl_within.f a b c = some (decide (b ≤ a ∧ a ≤ c)) := by
  unfold impl_within.f
  by_cases h : a ≥ b
  · rw [if_pos h]; congr 1; rw [Bool.eq_iff_iff]; simp; omega
  · rw [if_neg h]; congr 1; symm; rw [decide_eq_false_iff_not]; omega
theorem within_yes {a b c : Int} (h : b ≤ a ∧ a ≤ c) : impl_within.f a b c = some true := by rw [within_some, decide_eq_true h]
theorem within_no {a b c : Int} (h : ¬ (b ≤ a ∧ a ≤ c)) : impl_within.f a b c = some false := by rw [within_some, decide_eq_false h]

theorem rd_drop (l : List Int) (n : Nat) (j : Int) (h : 0 ≤ j) : rd (l.drop n) j = rd l ((n : Int) + j) := by
  unfold rd
  obtain ⟨m, rfl⟩ := Int.eq_ofNat_of_zero_le h
  rw [Int.toNat_natCast, show ((n : Int) + (m : Int)).toNat = n + m by omega]
  simp [List.getD_eq_getElem?_getD, List.getElem?_drop]
theorem rd_take (l : List Int) (n : Nat) (j : Int) (h : 0 ≤ j) (h1 : j < n) : rd (l.take n) j = rd l j := by
  unfold rd
  obtain ⟨m, rfl⟩ := Int.eq_ofNat_of_zero_le h
  rw [Int.toNat_natCast]
  simp [List.getD_eq_getElem?_getD, show m < n by omega]
/-- The part of a list from a place on. -/
def seg (l : List Int) (at_ n : Nat) : List Int := (l.drop at_).take n
theorem seg_len (l : List Int) (at_ n : Nat) (h : at_ + n ≤ l.length) : (seg l at_ n).length = n := by unfold seg; rw [List.length_take, List.length_drop]; omega
theorem seg_head (l : List Int) (at_ n : Nat) (h : 0 < n) : rd (seg l at_ n) 0 = rd l at_ := by
  unfold seg; rw [rd_take _ _ _ (by omega) (by omega), rd_drop _ _ _ (by omega)]; congr 1
theorem seg_low (l : List Int) (at_ n m : Nat) (h : m + 1 ≤ n) : ((seg l at_ n).take (1 + m)).drop 1 = seg l (at_ + 1) m := by
  unfold seg
  rw [List.take_take, Nat.min_eq_left (by omega), List.drop_take, List.drop_drop]
  congr 1; omega
theorem seg_high (l : List Int) (at_ n m : Nat) (h : m + 1 ≤ n) : (seg l at_ n).drop (1 + m) = seg l (at_ + 1 + m) (n - 1 - m) := by
  unfold seg
  rw [List.drop_take, List.drop_drop, show n - (1 + m) = n - 1 - m by omega, show at_ + (1 + m) = at_ + 1 + m by omega]
theorem tree_wraps (low : Int) (at_ m p : Nat) (h1 : 1 ≤ low) (h2 : low + m ≤ 2000) (hp : p + 1 ≤ m) (h3 : at_ ≤ 1000) :
    wrap64 (low + (m : Int)) = low + m ∧ wrap64 (low + (m : Int) - 1) = low + m - 1 ∧ wrap64 (low + (p : Int) - low) = p ∧ wrap64 (1 + (p : Int)) = ((1 + p : Nat) : Int) ∧ wrap64 (low + (p : Int) + 1) = low + p + 1 ∧ wrap64 (low + (p : Int) - 1) = low + p - 1 ∧ wrap64 ((at_ : Int) + 1) = ((at_ + 1 : Nat) : Int) := by
  refine ⟨wrap64_small (by omega) (by omega), wrap64_small (by omega) (by omega), (wrap64_small (by omega) (by omega)).trans (by omega), (wrap64_small (by omega) (by omega)).trans (by omega), wrap64_small (by omega) (by omega), wrap64_small (by omega) (by omega), (wrap64_small (by omega) (by omega)).trans (by omega)⟩
theorem tree_both (l : List Int) (hl : l.length ≤ 1000) (n : Nat) : ∀ (m at_ : Nat) (low : Int), m ≤ n → at_ + m ≤ l.length → 1 ≤ low → low + m ≤ 2000 →
    ∃ g : Bool, Ev (fun k => spec_trGood.f k (seg l at_ m) low) g ∧ Ev (fun k => impl_treeEnd.f k l at_ low (low + m - 1)) (if g = true then ((at_ + m : Nat) : Int) else -1) ∧ (g = true → ∀ j : Nat, at_ ≤ j → j < at_ + m → low ≤ rd l (j : Int) ∧ rd l (j : Int) ≤ low + m - 1) := by
  induction n with
  | zero =>
    intro m at_ low hm ha h1 h2
    obtain rfl : m = 0 := by omega
    refine ⟨true, Ev.step (f := fun _ => some true) (fun k => ?_) (Ev.now _), ?_, fun _ j h3 h4 => by omega⟩
    · simp only [spec_trGood.f]; rw [if_pos (by rw [seg_len _ _ _ ha]; rfl)]
    · rw [if_pos rfl]
      refine Ev.step (f := fun _ => some (at_ : Int)) (fun k => ?_) (Ev.now _)
      simp only [impl_treeEnd.f]; rw [if_pos (by omega)]
  | succ n ih =>
    intro m at_ low hm ha h1 h2
    by_cases hm0 : m = 0
    · exact ih m at_ low (by omega) ha h1 h2
    · have hlen := seg_len l at_ m ha
      have hhead := seg_head l at_ m (by omega)
      have E0 := Aside0.mk (tree_wraps low at_ m 0 h1 h2 (by omega) (by omega))
      by_cases hw : low ≤ rd l at_ ∧ rd l at_ ≤ low + m - 1
      · obtain ⟨p, hp⟩ : ∃ p : Nat, rd l at_ = low + p := ⟨(rd l at_ - low).toNat, by omega⟩
        have hpm : p + 1 ≤ m := by omega
        have E := Aside0.mk (tree_wraps low at_ m p h1 h2 hpm (by omega))
        obtain ⟨g1, a1, b1, c1⟩ := ih p (at_ + 1) low (by omega) (by omega) h1 (by omega)
        have spec_step : ∀ k, spec_trGood.f (k + 1) (seg l at_ m) low = (spec_trGood.f k (seg l (at_ + 1) p) low).bind fun t => (if t = true then ((spec_trGood.f k (seg l (at_ + 1 + p) (m - 1 - p)) (low + p + 1)).bind fun t => (some t)) else (some false)) := by
          intro k
          simp only [spec_trGood.f]
          unfold spec_trSplit.f
          rw [if_neg (by omega), if_pos (by omega), hhead, hlen, E.out.1, E.out.2.1, l1In_yes hw, Option.bind_some, if_pos rfl, if_pos (by omega), Option.bind_some, hp, E.out.2.2.1, E.out.2.2.2.1, if_pos (by omega), if_pos (by omega), Int.toNat_natCast, seg_low _ _ _ _ hpm, seg_high _ _ _ _ hpm, E.out.2.2.2.2.1]
          congr 1 <;> (funext t; rw [if_pos (show (0 : Int) ≤ ((1 + p : Nat) : Int) by omega)])
        have impl_step : ∀ k, impl_treeEnd.f (k + 1 + 1) l at_ low (low + m - 1) = (impl_treeEnd.f k l ((at_ + 1 : Nat) : Int) low (low + p - 1)).bind fun t => (if t < 0 then (some (-1)) else ((impl_treeEnd.f k l t (low + p + 1) (low + m - 1)).bind fun t => (some t))) := by
          intro k
          rw [impl_treeEnd.f, if_neg (by omega), if_neg (by omega), if_neg (by omega), if_pos (by omega), if_pos (by omega), within_yes hw, Option.bind_some]
          simp only [Bool.not_true, impl_treeEnd.j0]
          rw [if_ff, if_pos (by omega), if_pos (by omega), hp, E.out.2.2.2.2.1, E.out.2.2.2.2.2.1, E.out.2.2.2.2.2.2]
        cases g1 with
        | false =>
          refine ⟨false, Ev.step spec_step (Ev.bind a1 (Ev.congr (fun k => if_ff _ _) (Ev.now _))), ?_, fun h => by cases h⟩
          rw [if_ff]
          rw [if_ff] at b1
          refine Ev.step (f := fun k => impl_treeEnd.f (k + 1) l at_ low (low + m - 1)) (fun k => rfl) (Ev.step impl_step (Ev.bind b1 (Ev.congr (fun k => if_pos (by omega)) (Ev.now _))))
        | true =>
          obtain ⟨g2, a2, b2, c2⟩ := ih (m - 1 - p) (at_ + 1 + p) (low + p + 1) (by omega) (by omega) (by omega) (by omega)
          rw [if_pos rfl] at b1
          rw [show low + (p : Int) + 1 + ((m - 1 - p : Nat) : Int) - 1 = low + m - 1 by omega, show at_ + 1 + p + (m - 1 - p) = at_ + m by omega] at b2
          refine ⟨g2, Ev.step spec_step (Ev.bind a1 (Ev.congr (fun k => if_pos rfl) (Ev.bind (f := fun _ t => some t) a2 (Ev.now _)))), ?_, fun hg j h3 h4 => ?_⟩
          rotate_left
          · by_cases e1 : j = at_
            · subst e1; rw [hp]; omega
            · by_cases e2 : j < at_ + 1 + p
              · have := c1 rfl j (by omega) (by omega); omega
              · have := c2 hg j (by omega) (by omega); omega
          refine Ev.step (f := fun k => impl_treeEnd.f (k + 1) l at_ low (low + m - 1)) (fun k => rfl) (Ev.step impl_step (Ev.bind b1 (Ev.congr (fun k => if_neg (by omega)) (Ev.bind (f := fun _ t => some t) b2 (Ev.now _)))))
      · refine ⟨false, Ev.step (f := fun _ => some false) (fun k => ?_) (Ev.now _), ?_, fun h => by cases h⟩
        · simp only [spec_trGood.f]
          rw [if_neg (by omega), if_pos (by omega), hhead, hlen, E0.out.1, E0.out.2.1, l1In_no hw, Option.bind_some, if_ff]
        · rw [if_ff]
          refine Ev.step (f := fun k => impl_treeEnd.j0 k l at_ low (low + m - 1) true) (fun k => ?_) (Ev.step (f := fun _ => some (-1)) (fun k => ?_) (Ev.now _))
          · rw [impl_treeEnd.f, if_neg (by omega), if_neg (by omega), if_neg (by omega), if_pos (by omega), if_pos (by omega), within_no hw, Option.bind_some]; rfl
          · simp only [impl_treeEnd.j0]; rw [if_pos trivial]
theorem isTree_both (l : List Int) : ∃ g : Bool, Ev (fun k => spec_trIs.f k l) g ∧ Ev (fun k => impl_IsTree.f k l) g ∧ (g = true → l.length ≤ 30 ∧ ∀ j : Nat, j < l.length → 1 ≤ rd l (j : Int) ∧ rd l (j : Int) ≤ 30) := by
  by_cases h : (l.length : Int) ≤ 30
  · obtain ⟨g, h1, h2, h3⟩ := tree_both l (by omega) l.length l.length 0 1 (Nat.le_refl _) (by omega) (by omega) (by omega)
    have es : seg l 0 l.length = l := by unfold seg; rw [List.drop_zero, List.take_length]
    rw [es] at h1
    rw [show (1 : Int) + (l.length : Int) - 1 = l.length by omega, Nat.zero_add] at h2
    refine ⟨g, Ev.congr (f := fun k => (spec_trGood.f k l 1).bind fun t => (some t)) (fun k => ?_) (Ev.bind (f := fun _ t => some t) h1 (Ev.now _)), Ev.congr (f := fun k => (impl_treeEnd.f k l 0 1 (l.length : Int)).bind fun t => (some (t == (l.length : Int)))) (fun k => ?_) (Ev.bind h2 ?_), fun hg => ⟨by omega, fun j hj => by have := h3 hg j (by omega) (by omega); omega⟩⟩
    · unfold spec_trIs.f; rw [if_pos h]
    · unfold impl_IsTree.f; rw [if_pos h]
    · cases g with
      | true => rw [if_pos rfl]; exact Ev.congr (f := fun _ => some true) (fun k => by simp) (Ev.now _)
      | false => rw [if_ff]; exact Ev.congr (f := fun _ => some false) (fun k => by congr 1 <;> (rw [beq_eq_false_iff_ne]; omega)) (Ev.now _)
  · refine ⟨false, Ev.congr (f := fun _ => some false) (fun k => ?_) (Ev.now _), Ev.congr (f := fun _ => some false) (fun k => ?_) (Ev.now _), fun h => by cases h⟩
    · unfold spec_trIs.f; rw [if_neg h]
    · unfold impl_IsTree.f; rw [if_neg h]

theorem bapp (a b : List UInt8) : (⟨a.toArray⟩ ++ ⟨b.toArray⟩ : ByteArray) = ⟨(a ++ b).toArray⟩ := by
  apply ByteArray.ext
  rw [ByteArray.data_append]
  simp
theorem bsize (a : List UInt8) : (⟨a.toArray⟩ : ByteArray).size = a.length := by simp [ByteArray.size]
def numB (n : Nat) : ByteArray := ⟨(Go.Lib.decDigits n).toArray⟩
theorem digs_le_ (n : Nat) : (Go.Lib.decDigits n).length ≤ n + 1 := by
  induction n using Nat.strongRecOn with
  | _ n ih =>
    rw [Go.Lib.decDigits]
    split
    · simp
    · have := ih (n / 10) (by omega)
      rw [List.length_append, List.length_singleton]
      omega
theorem numB_size (n : Nat) : (numB n).size ≤ n + 1 := by unfold numB; rw [bsize]; exact digs_le_ n
theorem one_num (d : Nat) (h : d < 10) : strOfNums ([wrap64 (48 + (d : Int)) % 256] : List Int) = ⟨([UInt8.ofNat (48 + d)] : List UInt8).toArray⟩ := by
  have e : wrap64 (48 + (d : Int)) % 256 = ((48 + d : Nat) : Int) := by rw [wrap64_small (by omega) (by omega)]; omega
  rw [e]
  rfl
theorem l1Num_ev (n : Nat) (hn : n ≤ 1000000000000000) : Ev (fun k => spec_l1Num.f k (n : Int)) (numB n) := by
  induction n using Nat.strongRecOn with
  | _ n ih =>
    by_cases h : n < 10
    · refine Ev.step (f := fun _ => some (numB n)) (fun k => ?_) (Ev.now _)
      simp only [spec_l1Num.f]
      rw [if_pos (by omega), one_num n h]
      unfold numB
      rw [Go.Lib.decDigits, dif_pos h]
    · have h1 := ih (n / 10) (by omega) (by omega)
      have hd : wrap64 (Int.tdiv (n : Int) 10) = ((n / 10 : Nat) : Int) := by rw [Int.tdiv_eq_ediv_of_nonneg (by omega), wrap64_small (by omega) (by omega)]; omega
      have hm : Int.tmod (n : Int) 10 = ((n % 10 : Nat) : Int) := by rw [Int.tmod_eq_emod_of_nonneg (by omega)]; omega
      have hs := numB_size (n / 10)
      refine Ev.step (f := fun k => (spec_l1Num.f k ((n / 10 : Nat) : Int)).bind fun t => (if t.size + 1 ≤ 9223372036854775807 then some (t ++ ⟨([UInt8.ofNat (48 + n % 10)] : List UInt8).toArray⟩) else none)) (fun k => ?_) (Ev.bind h1 ?_)
      · simp only [spec_l1Num.f]
        rw [if_neg (by omega), hd, hm]
        congr 1
        funext t
        rw [Option.bind_some, one_num _ (by omega), bsize]
        rfl
      · refine Ev.congr (fun k => if_pos (by omega)) ?_
        refine Ev.congr (f := fun _ => some (numB n)) (fun k => ?_) (Ev.now _)
        unfold numB
        rw [bapp]
        congr 2
        rw [Go.Lib.decDigits.eq_def n, dif_neg h]

theorem join_snoc (xs : List (List UInt8)) (y sep : List UInt8) : Go.Lib.join (xs ++ [y]) sep = if xs = [] then y else Go.Lib.join xs sep ++ sep ++ y := by
  cases xs with
  | nil => rw [if_pos rfl, List.nil_append, Go.Lib.join_one]
  | cons x r =>
    rw [if_neg (by simp), List.cons_append, Go.Lib.join_cons, Go.Lib.join_cons]
    unfold Go.Lib.joinTail
    simp
theorem nums_snoc (l : List Int) (sep : List UInt8) (i : Nat) (h : i < l.length) (n : Nat) (hn : l[i] = (n : Int)) : Hand.numsT (l.take (i + 1)) sep = if i = 0 then Go.Lib.decDigits n else Hand.numsT (l.take i) sep ++ sep ++ Go.Lib.decDigits n := by
  unfold Hand.numsT
  rw [List.take_succ_eq_append_getElem h, List.map_append, List.map_cons, List.map_nil, join_snoc, hn, Int.toNat_natCast]
  by_cases h0 : i = 0
  · subst h0; rw [if_pos rfl, List.take_zero, List.map_nil, if_pos rfl]
  · rw [if_neg h0, if_neg (by
      intro e
      have e2 := congrArg List.length e
      rw [List.length_map, List.length_take, List.length_nil] at e2
      omega)]

theorem trText_go (l : List Int) (hl : l.length ≤ 1000) (hb : ∀ j : Nat, (h : j < l.length) → ∃ n : Nat, l[j] = (n : Int) ∧ n ≤ 30) (d : Nat) : ∀ i : Nat, i + d = l.length → (Hand.numsT (l.take i) [45]).length ≤ 100 * i →
    Ev (fun k => spec_trText.l0 k (⟨(Hand.numsT (l.take i) [45]).toArray⟩ : ByteArray) l (l.length : Int) (i : Int)) (⟨(Hand.numsT l [45]).toArray⟩ : ByteArray) := by
  induction d with
  | zero =>
    intro i hi _
    obtain rfl : i = l.length := by omega
    rw [List.take_length]
    refine Ev.step (f := fun _ => some (⟨(Hand.numsT l [45]).toArray⟩ : ByteArray)) (fun k => ?_) (Ev.now _)
    simp only [spec_trText.l0]
    rw [if_neg (by omega)]
  | succ d ih =>
    intro i hi hlen
    have hlt : i < l.length := by omega
    obtain ⟨n, hn, hn30⟩ := hb i hlt
    have hw : wrap64 ((i : Int) + 1) = ((i + 1 : Nat) : Int) := wrap64_small (by omega) (by omega)
    have hs := nums_snoc l [45] i hlt n hn
    have hd := digs_le_ n
    have hsl : (⟨#[45]⟩ : ByteArray) = ⟨([45] : List UInt8).toArray⟩ := rfl
    have h1 := ih (i + 1) (by omega) (by
      rw [hs]
      split
      · omega
      · rw [List.length_append, List.length_append, List.length_singleton]; omega)
    have hrd : rd l (i : Int) = (n : Int) := by rw [rd_nat l i hlt, hn]
    by_cases h0 : i = 0
    · rw [if_pos h0] at hs
      rw [hs] at h1
      refine Ev.step (f := fun k => (spec_l1Num.f k (n : Int)).bind fun t => (if (⟨(Hand.numsT (l.take i) [45]).toArray⟩ : ByteArray).size + t.size ≤ 9223372036854775807 then (spec_trText.l0 k ((⟨(Hand.numsT (l.take i) [45]).toArray⟩ : ByteArray) ++ t) l (l.length : Int) ((i + 1 : Nat) : Int)) else (none))) (fun k => ?_) (Ev.bind (l1Num_ev n (by omega)) ?_)
      · simp only [spec_trText.l0]
        rw [if_pos (by omega), if_pos (by omega), if_pos (by omega), if_neg (by omega), hrd, hw]
      · unfold numB
        refine Ev.congr (fun k => if_pos (by rw [bsize, bsize]; omega)) ?_
        have e0 : Hand.numsT (l.take i) [45] = [] := by subst h0; rfl
        rw [bapp, e0, List.nil_append]
        exact h1
    · rw [if_neg h0] at hs
      rw [hs] at h1
      refine Ev.step (f := fun k => (spec_l1Num.f k (n : Int)).bind fun t => (if ((⟨(Hand.numsT (l.take i) [45]).toArray⟩ : ByteArray) ++ (⟨#[45]⟩ : ByteArray)).size + t.size ≤ 9223372036854775807 then (spec_trText.l0 k (((⟨(Hand.numsT (l.take i) [45]).toArray⟩ : ByteArray) ++ (⟨#[45]⟩ : ByteArray)) ++ t) l (l.length : Int) ((i + 1 : Nat) : Int)) else (none))) (fun k => ?_) (Ev.bind (l1Num_ev n (by omega)) ?_)
      · simp only [spec_trText.l0]
        rw [if_pos (by omega), if_pos (by omega), if_pos (by omega), if_pos (by omega), if_pos (by rw [bsize]; omega), hrd, hw]
      · unfold numB
        refine Ev.congr (fun k => if_pos (by rw [hsl, bapp, bsize, bsize, List.length_append, List.length_singleton]; omega)) ?_
        rw [hsl, bapp, bapp]
        exact h1
theorem law_both (l : List Int) : ∃ r : ByteArray × Bool, Ev (fun k => spec_TreeText.f k l) r ∧ Ev (fun k => impl_TreeText.f k l) r := by
  obtain ⟨g, hs, hi, hg⟩ := isTree_both l
  cases g with
  | false =>
    refine ⟨((⟨#[]⟩ : ByteArray), false), ?_, ?_⟩
    · unfold spec_TreeText.f; exact Ev.bind hs (Ev.congr (fun k => if_ff _ _) (Ev.now _))
    · unfold impl_TreeText.f; exact Ev.bind hi (Ev.congr (fun k => if_ff _ _) (Ev.now _))
  | true =>
    obtain ⟨h30, hb⟩ := hg rfl
    have hb2 : ∀ j : Nat, (h : j < l.length) → ∃ n : Nat, l[j] = (n : Int) ∧ n ≤ 30 := fun j h => by
      have h2 := hb j h
      rw [rd_nat l j h] at h2
      exact ⟨(l[j]).toNat, by omega, by omega⟩
    have hk : okN l = true := by
      unfold okN
      rw [Bool.and_eq_true, decide_eq_true_eq, List.all_eq_true]
      refine ⟨by omega, fun x hx => ?_⟩
      obtain ⟨j, hj, rfl⟩ := List.getElem_of_mem hx
      obtain ⟨n, hn, hn2⟩ := hb2 j hj
      rw [hn, Bool.and_eq_true, decide_eq_true_eq, decide_eq_true_eq]
      omega
    refine ⟨((⟨(Hand.numsT l [45]).toArray⟩ : ByteArray), true), ?_, ?_⟩
    · unfold spec_TreeText.f
      refine Ev.bind hs (Ev.congr (fun k => if_pos rfl) (Ev.bind (f := fun _ t => some (t, true)) ?_ (Ev.now _)))
      have h := trText_go l (by omega) hb2 l.length 0 (by omega) (Nat.le_refl _)
      exact Ev.congr (fun k => rfl) h
    · unfold impl_TreeText.f
      exact Ev.bind hi (Ev.congr (fun k => if_pos rfl) (Ev.congr (fun k => if_pos hk) (Ev.now _)))
theorem FnExactTreeText : laws_FnExactTreeText.Pure := by
  intro l0 _ _ _
  apply Ev.rounds
  unfold laws_FnExactTreeText.f
  by_cases h : (l0.length : Int) > 1000000
  · exact Ev.congr (fun k => if_pos h) (Ev.now _)
  · refine Ev.congr (fun k => if_neg h) ?_
    obtain ⟨r, hs, hi⟩ := law_both l0
    have ht := laws_toIntS.ev l0 (by omega)
    have hx : Ev (fun k => laws_intactIntS.f k l0 l0) true := eqIntS_same l0 (by omega)
    refine Ev.bind (ht false) ?_
    refine Ev.bind hs ?_
    refine Ev.bind (ht false) ?_
    refine Ev.bind hi ?_
    refine Ev.congr (fun k => if_pos rfl) ?_
    refine Ev.congr (fun k => if_neg (by simp)) ?_
    refine Ev.bind (ht false) ?_
    refine Ev.bind hx ?_
    refine Ev.congr (fun k => if_pos rfl) ?_
    refine Ev.bind (ht true) ?_
    refine Ev.bind hi ?_
    refine Ev.congr (fun k => if_pos rfl) ?_
    refine Ev.congr (fun k => if_neg (by simp)) ?_
    exact Ev.now _

end Go.Proofs.YtbgmhdlmhncdcaaDoor.Pure
