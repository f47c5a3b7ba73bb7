/- The program's JoinTrees answers as the reference's does, in memory of its own, and leaves the rows that it is given alone, for every two lists; no conditions. -/
import Derived.Test.YtlngkkdoikekbaaQFnExactJoinTreesx4
namespace Go.Proofs.Ytlngkkdoikekbaa.Pure
open Go.RowKit Go.Proofs.Ytlngkkdoikekbaa.QFnExactJoinTrees Go.Proofs.YtlngkkdoikekbaaW.PrintWords Go.Proofs.YtlngkkdoikekbaaW.PrintLast Go.Proofs.YtlngkkdoikekbaaW.PrintMore
set_option linter.unusedVariables false

theorem wrap64_small {x : Int} (h0 : -9223372036854775808 ≤ x) (h1 : x < 9223372036854775808) : wrap64 x = x := by
  unfold wrap64; omega
theorem l1In_some (a b c : Int) : spec_l1In.f a b c = some (decide (b ≤ a ∧ a ≤ c)) := by
  unfold spec_l1In.f
  by_cases h : a ≥ b
  · rw [if_pos h]; congr 1; rw [Bool.eq_iff_iff]; simp; omega
  · rw [if_neg h]; congr 1; symm; rw [decide_eq_false_iff_not]; omega
theorem l1In_yes {a b c : Int} (h : b ≤ a ∧ a ≤ c) : spec_l1In.f a b c = some true := by rw [l1In_some, decide_eq_true h]
theorem l1In_no {a b c : Int} (h : ¬ (b ≤ a ∧ a ≤ c)) : spec_l1In.f a b c = some false := by rw [l1In_some, decide_eq_false h]
theorem if_ff {α : Type} (x y : α) : (if false = true then x else y) = y := if_neg (by decide)

theorem within_some (a b c : Int) : impl_within.f a b c = some (decide (b ≤ a ∧ a ≤ c)) := by
  unfold impl_within.f
  by_cases h : a ≥ b
  · rw [if_pos h]; congr 1; rw [Bool.eq_iff_iff]; simp; omega
  · rw [if_neg h]; congr 1; symm; rw [decide_eq_false_iff_not]; omega
theorem within_yes {a b c : Int} (h : b ≤ a ∧ a ≤ c) : impl_within.f a b c = some true := by rw [within_some, decide_eq_true h]
theorem within_no {a b c : Int} (h : ¬ (b ≤ a ∧ a ≤ c)) : impl_within.f a b c = some false := by rw [within_some, decide_eq_false h]

theorem inn_dec (a b c : Int) : Hand.inn a b c = decide (b ≤ a ∧ a ≤ c) := by unfold Hand.inn; rw [Bool.decide_and]
theorem inn_some (a b c : Int) : spec_l1In.f a b c = some (Hand.inn a b c) := by rw [l1In_some, inn_dec]
theorem rd_nat (l : List Int) (i : Nat) (h : i < l.length) : rd l (i : Int) = l[i] := by unfold rd; simp [h]

theorem rd_set (l : List Int) (i : Nat) (v : Int) (j : Int) (hj : 0 ≤ j) (hi : i < l.length) : rd (l.set i v) j = if j = (i : Int) then v else rd l j := by
  unfold rd
  by_cases h : j = (i : Int)
  · subst h
    simp [hi]
  · rw [if_neg h]
    have : i ≠ j.toNat := by omega
    simp [List.getD_eq_getElem?_getD, this]

theorem rd_drop (l : List Int) (n : Nat) (j : Int) (h : 0 ≤ j) : rd (l.drop n) j = rd l ((n : Int) + j) := by
  unfold rd
  obtain ⟨m, rfl⟩ := Int.eq_ofNat_of_zero_le h
  rw [Int.toNat_natCast, show ((n : Int) + (m : Int)).toNat = n + m by omega]
  simp [List.getD_eq_getElem?_getD, List.getElem?_drop]
theorem rd_take (l : List Int) (n : Nat) (j : Int) (h : 0 ≤ j) (h1 : j < n) : rd (l.take n) j = rd l j := by
  unfold rd
  obtain ⟨m, rfl⟩ := Int.eq_ofNat_of_zero_le h
  rw [Int.toNat_natCast]
  simp [List.getD_eq_getElem?_getD, show m < n by omega]
/-- The part of a list from a place on. -/
def seg (l : List Int) (at_ n : Nat) : List Int := (l.drop at_).take n
theorem seg_len (l : List Int) (at_ n : Nat) (h : at_ + n ≤ l.length) : (seg l at_ n).length = n := by unfold seg; rw [List.length_take, List.length_drop]; omega
theorem seg_head (l : List Int) (at_ n : Nat) (h : 0 < n) : rd (seg l at_ n) 0 = rd l at_ := by
  unfold seg; rw [rd_take _ _ _ (by omega) (by omega), rd_drop _ _ _ (by omega)]; congr 1
theorem seg_low (l : List Int) (at_ n m : Nat) (h : m + 1 ≤ n) : ((seg l at_ n).take (1 + m)).drop 1 = seg l (at_ + 1) m := by
  unfold seg
  rw [List.take_take, Nat.min_eq_left (by omega), List.drop_take, List.drop_drop]
  congr 1; omega
theorem seg_high (l : List Int) (at_ n m : Nat) (h : m + 1 ≤ n) : (seg l at_ n).drop (1 + m) = seg l (at_ + 1 + m) (n - 1 - m) := by
  unfold seg
  rw [List.drop_take, List.drop_drop, show n - (1 + m) = n - 1 - m by omega, show at_ + (1 + m) = at_ + 1 + m by omega]
theorem tree_wraps (low : Int) (at_ m p : Nat) (h1 : 1 ≤ low) (h2 : low + m ≤ 2000) (hp : p + 1 ≤ m) (h3 : at_ ≤ 1000) :
    wrap64 (low + (m : Int)) = low + m ∧ wrap64 (low + (m : Int) - 1) = low + m - 1 ∧ wrap64 (low + (p : Int) - low) = p ∧ wrap64 (1 + (p : Int)) = ((1 + p : Nat) : Int) ∧ wrap64 (low + (p : Int) + 1) = low + p + 1 ∧ wrap64 (low + (p : Int) - 1) = low + p - 1 ∧ wrap64 ((at_ : Int) + 1) = ((at_ + 1 : Nat) : Int) := by
  refine ⟨wrap64_small (by omega) (by omega), wrap64_small (by omega) (by omega), (wrap64_small (by omega) (by omega)).trans (by omega), (wrap64_small (by omega) (by omega)).trans (by omega), wrap64_small (by omega) (by omega), wrap64_small (by omega) (by omega), (wrap64_small (by omega) (by omega)).trans (by omega)⟩
theorem tree_both (l : List Int) (hl : l.length ≤ 1000) (n : Nat) : ∀ (m at_ : Nat) (low : Int), m ≤ n → at_ + m ≤ l.length → 1 ≤ low → low + m ≤ 2000 →
    ∃ g : Bool, Ev (fun k => spec_trGood.f k (seg l at_ m) low) g ∧ Ev (fun k => impl_treeEnd.f k l at_ low (low + m - 1)) (if g = true then ((at_ + m : Nat) : Int) else -1) := by
  induction n with
  | zero =>
    intro m at_ low hm ha h1 h2
    obtain rfl : m = 0 := by omega
    refine ⟨true, Ev.step (f := fun _ => some true) (fun k => ?_) (Ev.now _), ?_⟩
    · simp only [spec_trGood.f]; rw [if_pos (by rw [seg_len _ _ _ ha]; rfl)]
    · rw [if_pos rfl]
      refine Ev.step (f := fun _ => some (at_ : Int)) (fun k => ?_) (Ev.now _)
      simp only [impl_treeEnd.f]; rw [if_pos (by omega)]
  | succ n ih =>
    intro m at_ low hm ha h1 h2
    by_cases hm0 : m = 0
    · exact ih m at_ low (by omega) ha h1 h2
    · have hlen := seg_len l at_ m ha
      have hhead := seg_head l at_ m (by omega)
      have E0 := Aside0.mk (tree_wraps low at_ m 0 h1 h2 (by omega) (by omega))
      by_cases hw : low ≤ rd l at_ ∧ rd l at_ ≤ low + m - 1
      · obtain ⟨p, hp⟩ : ∃ p : Nat, rd l at_ = low + p := ⟨(rd l at_ - low).toNat, by omega⟩
        have hpm : p + 1 ≤ m := by omega
        have E := Aside0.mk (tree_wraps low at_ m p h1 h2 hpm (by omega))
        obtain ⟨g1, a1, b1⟩ := ih p (at_ + 1) low (by omega) (by omega) h1 (by omega)
        have spec_step : ∀ k, spec_trGood.f (k + 1) (seg l at_ m) low = (spec_trGood.f k (seg l (at_ + 1) p) low).bind fun t => (if t = true then ((spec_trGood.f k (seg l (at_ + 1 + p) (m - 1 - p)) (low + p + 1)).bind fun t => (some t)) else (some false)) := by
          intro k
          simp only [spec_trGood.f]
          unfold spec_trSplit.f
          rw [if_neg (by omega), if_pos (by omega), hhead, hlen, E.out.1, E.out.2.1, l1In_yes hw, Option.bind_some, if_pos rfl, if_pos (by omega), Option.bind_some, hp, E.out.2.2.1, E.out.2.2.2.1, if_pos (by omega), if_pos (by omega), Int.toNat_natCast, seg_low _ _ _ _ hpm, seg_high _ _ _ _ hpm, E.out.2.2.2.2.1]
          congr 1 <;> (funext t; rw [if_pos (show (0 : Int) ≤ ((1 + p : Nat) : Int) by omega)])
        have impl_step : ∀ k, impl_treeEnd.f (k + 1 + 1) l at_ low (low + m - 1) = (impl_treeEnd.f k l ((at_ + 1 : Nat) : Int) low (low + p - 1)).bind fun t => (if t < 0 then (some (-1)) else ((impl_treeEnd.f k l t (low + p + 1) (low + m - 1)).bind fun t => (some t))) := by
          intro k
          rw [impl_treeEnd.f, if_neg (by omega), if_neg (by omega), if_neg (by omega), if_pos (by omega), if_pos (by omega), within_yes hw, Option.bind_some]
          simp only [Bool.not_true, impl_treeEnd.j0]
          rw [if_ff, if_pos (by omega), if_pos (by omega), hp, E.out.2.2.2.2.1, E.out.2.2.2.2.2.1, E.out.2.2.2.2.2.2]
        cases g1 with
        | false =>
          refine ⟨false, Ev.step spec_step (Ev.bind a1 (Ev.congr (fun k => if_ff _ _) (Ev.now _))), ?_⟩
          rw [if_ff]
          rw [if_ff] at b1
          refine Ev.step (f := fun k => impl_treeEnd.f (k + 1) l at_ low (low + m - 1)) (fun k => rfl) (Ev.step impl_step (Ev.bind b1 (Ev.congr (fun k => if_pos (by omega)) (Ev.now _))))
        | true =>
          obtain ⟨g2, a2, b2⟩ := ih (m - 1 - p) (at_ + 1 + p) (low + p + 1) (by omega) (by omega) (by omega) (by omega)
          rw [if_pos rfl] at b1
          rw [show low + (p : Int) + 1 + ((m - 1 - p : Nat) : Int) - 1 = low + m - 1 by omega, show at_ + 1 + p + (m - 1 - p) = at_ + m by omega] at b2
          refine ⟨g2, Ev.step spec_step (Ev.bind a1 (Ev.congr (fun k => if_pos rfl) (Ev.bind (f := fun _ t => some t) a2 (Ev.now _)))), ?_⟩
          refine Ev.step (f := fun k => impl_treeEnd.f (k + 1) l at_ low (low + m - 1)) (fun k => rfl) (Ev.step impl_step (Ev.bind b1 (Ev.congr (fun k => if_neg (by omega)) (Ev.bind (f := fun _ t => some t) b2 (Ev.now _)))))
      · refine ⟨false, Ev.step (f := fun _ => some false) (fun k => ?_) (Ev.now _), ?_⟩
        · simp only [spec_trGood.f]
          rw [if_neg (by omega), if_pos (by omega), hhead, hlen, E0.out.1, E0.out.2.1, l1In_no hw, Option.bind_some, if_ff]
        · rw [if_ff]
          refine Ev.step (f := fun k => impl_treeEnd.j0 k l at_ low (low + m - 1) true) (fun k => ?_) (Ev.step (f := fun _ => some (-1)) (fun k => ?_) (Ev.now _))
          · rw [impl_treeEnd.f, if_neg (by omega), if_neg (by omega), if_neg (by omega), if_pos (by omega), if_pos (by omega), within_no hw, Option.bind_some]; rfl
          · simp only [impl_treeEnd.j0]; rw [if_pos trivial]
theorem isTree_both (l : List Int) : ∃ g : Bool, Ev (fun k => spec_trIs.f k l) g ∧ Ev (fun k => impl_IsTree.f k l) g := by
  by_cases h : (l.length : Int) ≤ 30
  · obtain ⟨g, h1, h2⟩ := tree_both l (by omega) l.length l.length 0 1 (Nat.le_refl _) (by omega) (by omega) (by omega)
    have es : seg l 0 l.length = l := by unfold seg; rw [List.drop_zero, List.take_length]
    rw [es] at h1
    rw [show (1 : Int) + (l.length : Int) - 1 = l.length by omega, Nat.zero_add] at h2
    refine ⟨g, Ev.congr (f := fun k => (spec_trGood.f k l 1).bind fun t => (some t)) (fun k => ?_) (Ev.bind (f := fun _ t => some t) h1 (Ev.now _)), Ev.congr (f := fun k => (impl_treeEnd.f k l 0 1 (l.length : Int)).bind fun t => (some (t == (l.length : Int)))) (fun k => ?_) (Ev.bind h2 ?_)⟩
    · unfold spec_trIs.f; rw [if_pos h]
    · unfold impl_IsTree.f; rw [if_pos h]
    · cases g with
      | true => rw [if_pos rfl]; exact Ev.congr (f := fun _ => some true) (fun k => by simp) (Ev.now _)
      | false => rw [if_ff]; exact Ev.congr (f := fun _ => some false) (fun k => by congr 1 <;> (rw [beq_eq_false_iff_ne]; omega)) (Ev.now _)
  · refine ⟨false, Ev.congr (f := fun _ => some false) (fun k => ?_) (Ev.now _), Ev.congr (f := fun _ => some false) (fun k => ?_) (Ev.now _)⟩
    · unfold spec_trIs.f; rw [if_neg h]
    · unfold impl_IsTree.f; rw [if_neg h]

theorem trMoved_go (l : List Int) (m : Int) (hl : l.length < 1000000000000) (d : Nat) : ∀ (i : Nat) (x : List Int), i + d = l.length → x.length = i → Ev (fun k => spec_trMoved.l0 k m x l (l.length : Int) (i : Int)) (x ++ Hand.moved (l.drop i) m) := by
  induction d with
  | zero =>
    intro i x hi hx
    refine Ev.step (f := fun _ => some x) (fun k => ?_) ?_
    · simp only [spec_trMoved.l0]; rw [if_neg (by omega)]
    · rw [List.drop_eq_nil_of_le (by omega)]; unfold Hand.moved; rw [List.map_nil, List.append_nil]; exact Ev.now _
  | succ d ih =>
    intro i x hi hx
    have hlt : i < l.length := by omega
    have HW := Aside0.mk (show wrap64 ((i : Int) + 1) = ((i + 1 : Nat) : Int) from wrap64_small (by omega) (by omega))
    have h := ih (i + 1) (x ++ [wrap64 (l[i] + m)]) (by omega) (by rw [List.length_append, List.length_singleton, hx])
    have e : x ++ Hand.moved (l.drop i) m = x ++ [wrap64 (l[i] + m)] ++ Hand.moved (l.drop (i + 1)) m := by
      rw [List.drop_eq_getElem_cons hlt]; unfold Hand.moved; rw [List.map_cons, List.append_assoc, List.singleton_append]
    rw [e]
    refine Ev.step (fun k => ?_) h
    simp only [spec_trMoved.l0]
    rw [if_pos (by omega), if_pos (by omega), if_pos (by omega), if_pos (by omega), rd_nat l i hlt, HW.out]
theorem trMoved_ev (l : List Int) (m : Int) (hl : l.length < 1000000000000) : Ev (fun k => spec_trMoved.f k l m) (Hand.moved l m) := by
  have h := trMoved_go l m hl l.length 0 [] (by omega) rfl
  rw [List.drop_zero, List.nil_append] at h
  exact Ev.congr (fun k => rfl) h
theorem trJoin_ev (a b : List Int) (h : a.length + b.length ≤ 1000000) : Ev (fun k => spec_trJoin.f k a b) (Hand.joinT a b) := by
  have hw : wrap64 ((a.length : Int) + 1) = (a.length : Int) + 1 := wrap64_small (by omega) (by omega)
  have hm := trMoved_ev b ((a.length : Int) + 1) (by omega)
  have hml : (Hand.moved b ((a.length : Int) + 1)).length = b.length := by unfold Hand.moved; rw [List.length_map]
  refine Ev.congr (f := fun k => (spec_trMoved.f k b ((a.length : Int) + 1)).bind fun t => (if ([(a.length : Int) + 1] ++ a).length + t.length < 17592186044416 then (some ([(a.length : Int) + 1] ++ a ++ t)) else (none))) (fun k => ?_) (Ev.bind hm ?_)
  · unfold spec_trJoin.f
    rw [hw, Option.bind_some, if_pos (by rw [List.length_singleton]; omega), Option.bind_some]
  · refine Ev.congr (fun k => if_pos (by rw [hml, List.length_append, List.length_singleton]; omega)) ?_
    exact Ev.congr (f := fun _ => some (Hand.joinT a b)) (fun k => by unfold Hand.joinT; rw [List.append_assoc]; rfl) (Ev.now _)
theorem joined_ev (a b : List Int) (h : a.length + b.length ≤ 1000000) : Ev (fun k => impl_joined.f k a b) (Hand.joinT a b) := Ev.congr (f := fun _ => some (Hand.joinT a b)) (fun k => by unfold impl_joined.f; rw [if_pos h]) (Ev.now _)

theorem eqIntS_l0 (l : List Int) (hl : l.length < 1000000000000) (d : Nat) : ∀ (i : Int), 0 ≤ i → i ≤ l.length → (l.length : Int) - i = d → Ev (fun k => laws_eqIntS.l0 k l l i) true := by
  induction d with
  | zero =>
    intro i h0 h1 hd
    exact Ev.step (f := fun _ => some true) (fun k => by simp only [laws_eqIntS.l0]; rw [if_neg (by omega)]) (Ev.now _)
  | succ d ih =>
    intro i h0 h1 hd
    have hlt : i < (l.length : Int) := by omega
    have hw : wrap64 (i + 1) = i + 1 := wrap64_small (by omega) (by omega)
    exact Ev.step (f := fun k => laws_eqIntS.l0 k l l (i + 1)) (fun k => by simp only [laws_eqIntS.l0]; rw [if_pos hlt, if_pos h0, if_pos hlt, if_pos trivial, hw]) (ih (i + 1) (by omega) (by omega) (by omega))

theorem eqIntS_self (l : List Int) (hl : l.length < 1000000000000) : Ev (fun k => laws_eqIntS.f k l l) true :=
  Ev.congr (f := fun k => laws_eqIntS.l0 k l l 0) (fun k => by unfold laws_eqIntS.f; rw [if_pos rfl]) (eqIntS_l0 l hl l.length 0 (by omega) (by omega) (by omega))

theorem markIntS_l0 (n : Nat) (hn : n < 1000000000000) (a : Int) (ha0 : 0 ≤ a) (ha1 : a < 1000000000000) (d : Nat) : ∀ (x : List Int) (i : Int), x.length = n → 0 ≤ i → i ≤ n → (n : Int) - i = d → (∀ j : Int, 0 ≤ j → j < i → rd x j = a + j) →
    ∃ r, Ev (fun k => laws_markIntS.l0 k x (a + i) i) (a + n, r) ∧ r.length = n ∧ ∀ j : Int, 0 ≤ j → j < n → rd r j = a + j := by
  induction d with
  | zero =>
    intro x i hx h0 h1 hd hj
    have hi : i = n := by omega
    subst hi
    exact ⟨x, Ev.step (f := fun _ => some (a + n, x)) (fun k => by simp only [laws_markIntS.l0]; rw [if_neg (by omega)]) (Ev.now _), hx, hj⟩
  | succ d ih =>
    intro x i hx h0 h1 hd hj
    have hlt : i < (x.length : Int) := by omega
    have hw : wrap64 (i + 1) = i + 1 := wrap64_small (by omega) (by omega)
    have hw2 : wrap64 (a + i + 1) = a + (i + 1) := by rw [wrap64_small (by omega) (by omega)]; omega
    obtain ⟨r, hr, hl, hv⟩ := ih (x.set i.toNat (a + i)) (i + 1) (by simp [hx]) (by omega) (by omega) (by omega) (fun j h0j hji => by
      rw [rd_set _ _ _ _ h0j (by omega)]
      by_cases e : j = (i.toNat : Int)
      · rw [if_pos e]; omega
      · rw [if_neg e]; exact hj j h0j (by omega))
    exact ⟨r, Ev.step (f := fun k => laws_markIntS.l0 k (x.set i.toNat (a + i)) (a + (i + 1)) (i + 1)) (fun k => by simp only [laws_markIntS.l0]; rw [if_pos hlt, if_pos h0, hw, hw2]) hr, hl, hv⟩

theorem heldIntS_l0 (r : List Int) (hn : r.length < 1000000000000) (a : Int) (ha0 : 0 ≤ a) (ha1 : a < 1000000000000) (hv : ∀ j : Int, 0 ≤ j → j < r.length → rd r j = a + j) (d : Nat) : ∀ (i : Int), 0 ≤ i → i ≤ r.length → (r.length : Int) - i = d →
    Ev (fun k => laws_heldIntS.l0 k r (a + i) i) (a + r.length) := by
  induction d with
  | zero =>
    intro i h0 h1 hd
    have hi : i = r.length := by omega
    subst hi
    exact Ev.step (f := fun _ => some (a + r.length)) (fun k => by simp only [laws_heldIntS.l0]; rw [if_neg (by omega)]) (Ev.now _)
  | succ d ih =>
    intro i h0 h1 hd
    have hlt : i < (r.length : Int) := by omega
    have hw : wrap64 (i + 1) = i + 1 := wrap64_small (by omega) (by omega)
    have hw2 : wrap64 (a + i + 1) = a + (i + 1) := by rw [wrap64_small (by omega) (by omega)]; omega
    exact Ev.step (f := fun k => laws_heldIntS.l0 k r (a + (i + 1)) (i + 1)) (fun k => by simp only [laws_heldIntS.l0]; rw [if_pos hlt, if_pos h0, if_pos (hv i h0 hlt), hw, hw2]) (ih (i + 1) (by omega) (by omega) (by omega))

theorem mark_held (l : List Int) (hl : l.length < 1000000000) : ∃ r, Ev (fun k => laws_markIntS.f k l 101) (101 + (l.length : Int), r) ∧ Ev (fun k => laws_heldIntS.f k r 101) (101 + (l.length : Int)) ∧ r.length = l.length := by
  obtain ⟨r, h1, h2, h3⟩ := markIntS_l0 l.length (by omega) 101 (by omega) (by omega) l.length l 0 rfl (by omega) (by omega) (by omega) (fun j _ _ => by omega)
  refine ⟨r, h1, ?_, h2⟩
  have := heldIntS_l0 r (by omega) 101 (by omega) (by omega) (fun j h0 h1 => h3 j h0 (by omega)) r.length 0 (by omega) (by omega) (by omega)
  rw [h2] at this
  exact this

theorem mark_ev (l : List Int) (hl : l.length < 1000000000) (a : Int) (h0 : 0 ≤ a) (h1 : a < 1000000000000) : ∃ r, Ev (fun k => laws_markIntS.f k l a) (a + (l.length : Int), r) := by
  obtain ⟨r, h2, _⟩ := markIntS_l0 l.length (by omega) a h0 h1 l.length l 0 rfl (by omega) (by omega) (by omega) (fun j _ _ => by omega)
  rw [Int.add_zero] at h2
  exact ⟨r, h2⟩
theorem join_both (a b : List Int) (h : a.length + b.length ≤ 1000000) : ∃ r : List Int × Bool, r.1.length ≤ 1000001 ∧ Ev (fun k => spec_JoinTrees.f k a b) r ∧ Ev (fun k => impl_JoinTrees.f k a b) r := by
  have HW := Aside0.mk (show wrap64 ((a.length : Int) + (b.length : Int)) = (a.length : Int) + (b.length : Int) from wrap64_small (by omega) (by omega))
  obtain ⟨g, g1, g2⟩ := isTree_both a
  obtain ⟨q, q1, q2⟩ := isTree_both b
  cases g with
  | false =>
    refine ⟨([], false), by simp, ?_, ?_⟩
    · unfold spec_JoinTrees.f; exact Ev.bind g1 (Ev.congr (fun k => if_ff _ _) (Ev.now _))
    · unfold impl_JoinTrees.f; exact Ev.bind g2 (Ev.congr (fun k => if_ff _ _) (Ev.now _))
  | true =>
    cases q with
    | false =>
      refine ⟨([], false), by simp, ?_, ?_⟩
      · unfold spec_JoinTrees.f; exact Ev.bind g1 (Ev.congr (fun k => if_pos rfl) (Ev.bind q1 (Ev.congr (fun k => if_ff _ _) (Ev.now _))))
      · unfold impl_JoinTrees.f; exact Ev.bind g2 (Ev.congr (fun k => if_pos rfl) (Ev.bind q2 (Ev.congr (fun k => if_ff _ _) (Ev.now _))))
    | true =>
      by_cases c : (a.length : Int) + (b.length : Int) ≥ 30
      · refine ⟨([], false), by simp, ?_, ?_⟩
        · unfold spec_JoinTrees.f; rw [HW.out]; exact Ev.bind g1 (Ev.congr (fun k => if_pos rfl) (Ev.bind q1 (Ev.congr (fun k => if_pos rfl) (Ev.congr (fun k => if_pos c) (Ev.now _)))))
        · unfold impl_JoinTrees.f; rw [HW.out]; exact Ev.bind g2 (Ev.congr (fun k => if_pos rfl) (Ev.bind q2 (Ev.congr (fun k => if_pos rfl) (Ev.congr (fun k => if_pos c) (Ev.now _)))))
      · refine ⟨(Hand.joinT a b, true), by show (Hand.joinT a b).length ≤ 1000001; rw [Hand.joinT_len]; omega, ?_, ?_⟩
        · unfold spec_JoinTrees.f; rw [HW.out]; exact Ev.bind g1 (Ev.congr (fun k => if_pos rfl) (Ev.bind q1 (Ev.congr (fun k => if_pos rfl) (Ev.congr (fun k => if_neg c) (Ev.bind (trJoin_ev a b h) (Ev.now _))))))
        · unfold impl_JoinTrees.f; rw [HW.out]; exact Ev.bind g2 (Ev.congr (fun k => if_pos rfl) (Ev.bind q2 (Ev.congr (fun k => if_pos rfl) (Ev.congr (fun k => if_neg c) (Ev.bind (joined_ev a b h) (Ev.now _))))))
theorem FnExactJoinTrees : laws_FnExactJoinTrees.Pure := by
  intro l0 l1 _ hy0 _ _ hy1 _
  apply Ev.rounds
  unfold laws_FnExactJoinTrees.f
  have hw : wrap64 ((l0.length : Int) + (l1.length : Int)) = (l0.length : Int) + (l1.length : Int) := wrap64_small (by omega) (by omega)
  rw [hw]
  clear hw
  by_cases h : (l0.length : Int) + (l1.length : Int) > 1000000
  · exact Ev.congr (fun k => if_pos h) (Ev.now _)
  · refine Ev.congr (fun k => if_neg h) ?_
    have ht := laws_toIntS.ev l0 (by omega)
    have hu := laws_toIntS.ev l1 (by omega)
    obtain ⟨r, hrl, hs, hi⟩ := join_both l0 l1 (by omega)
    have hx : Ev (fun k => laws_intactIntS.f k l0 l0) true := eqIntS_same l0 (by omega)
    have hy : Ev (fun k => laws_intactIntS.f k l1 l1) true := eqIntS_same l1 (by omega)
    obtain ⟨m0, hm0⟩ := mark_ev l0 (by omega) 101 (by omega) (by omega)
    obtain ⟨m1, hm1⟩ := mark_ev l1 (by omega) (101 + (l0.length : Int)) (by omega) (by omega)
    obtain ⟨mr, hmk, hh, _⟩ := mark_held r.1 (by omega)
    have heq := eqIntS_self r.1 (by omega)
    refine Ev.bind (ht false) ?_
    refine Ev.bind (hu false) ?_
    refine Ev.bind hs ?_
    refine Ev.bind (ht false) ?_
    refine Ev.bind (hu false) ?_
    refine Ev.bind hi ?_
    refine Ev.bind heq ?_
    refine Ev.congr (fun k => if_pos rfl) ?_
    refine Ev.congr (fun k => if_neg (by simp)) ?_
    refine Ev.bind (ht false) ?_
    refine Ev.bind hx ?_
    refine Ev.congr (fun k => if_pos rfl) ?_
    refine Ev.bind (hu false) ?_
    refine Ev.bind hy ?_
    refine Ev.congr (fun k => if_pos rfl) ?_
    refine Ev.bind hm0 ?_
    refine Ev.bind hm1 ?_
    refine Ev.congr (fun k => if_neg (show ¬ ((101 + (l0.length : Int) + (l1.length : Int)) < 0) by omega)) ?_
    refine Ev.bind heq ?_
    refine Ev.congr (fun k => if_pos rfl) ?_
    refine Ev.bind hmk ?_
    refine Ev.bind hh ?_
    refine Ev.congr (fun k => if_neg (by omega)) ?_
    refine Ev.congr (fun k => if_pos rfl) ?_
    refine Ev.bind (ht true) ?_
    refine Ev.bind (hu true) ?_
    refine Ev.bind hi ?_
    refine Ev.bind heq ?_
    refine Ev.congr (fun k => if_pos rfl) ?_
    refine Ev.congr (fun k => if_neg (by simp)) ?_
    refine Ev.bind hh ?_
    refine Ev.congr (fun k => if_neg (by omega)) ?_
    refine Ev.congr (fun k => if_pos rfl) ?_
    exact Ev.now _

end Go.Proofs.Ytlngkkdoikekbaa.Pure
