/- The program's ParseDrops answers as the reference's does, in memory of its own, for every text; no conditions. -/
import Derived.Test.YtbgmhdlmhncdcaaDoorQFnExactParseDropsx4
namespace Go.Proofs.YtbgmhdlmhncdcaaDoor.Pure
open Go.RowKit Go.Proofs.YtbgmhdlmhncdcaaDoor.QFnExactParseDrops Go.Proofs.YtbgmhdlmhncdcaaDoorW.PrintWords Go.Proofs.YtbgmhdlmhncdcaaDoorW.PrintLast
set_option linter.unusedVariables false

theorem wrap64_small {x : Int} (h0 : -9223372036854775808 ≤ x) (h1 : x < 9223372036854775808) : wrap64 x = x := by
  unfold wrap64; omega
theorem l1In_some (a b c : Int) : spec_l1In.f a b c = some (decide (b ≤ a ∧ a ≤ c)) := by
  unfold spec_l1In.f
  by_cases h : a ≥ b
  · rw [if_pos h]; congr 1; rw [Bool.eq_iff_iff]; simp; omega
  · rw [if_neg h]; congr 1; symm; rw [decide_eq_false_iff_not]; omega
theorem l1In_yes {a b c : Int} (h : b ≤ a ∧ a ≤ c) : spec_l1In.f a b c = some true := by rw [l1In_some, decide_eq_true h]
theorem l1In_no {a b c : Int} (h : ¬ (b ≤ a ∧ a ≤ c)) : spec_l1In.f a b c = some false := by rw [l1In_some, decide_eq_false h]
theorem if_ff {α : Type} (x y : α) : (if false = true then x else y) = y := if_neg (by decide)

theorem inn_dec (a b c : Int) : Hand.inn a b c = decide (b ≤ a ∧ a ≤ c) := by unfold Hand.inn; rw [Bool.decide_and]
theorem inn_some (a b c : Int) : spec_l1In.f a b c = some (Hand.inn a b c) := by rw [l1In_some, inn_dec]
theorem rd_nat (l : List Int) (i : Nat) (h : i < l.length) : rd l (i : Int) = l[i] := by unfold rd; simp [h]

theorem rd73_nat (l : List S73) (i : Nat) (h : i < l.length) : rd_T73 l (i : Int) = l[i] := by unfold rd_T73; simp [h]
theorem flDrops_go (l : List S73) (b : Int) (hl : l.length < 1000000000000) (d : Nat) : ∀ (i : Nat), i + d = l.length → Ev (fun k => spec_flDrops.l0 k b l (l.length : Int) (i : Int)) (!((l.drop i).any fun x => !(Hand.inn x.f0 1 b))) := by
  induction d with
  | zero =>
    intro i hi
    refine Ev.step (f := fun _ => some true) (fun k => ?_) ?_
    · simp only [spec_flDrops.l0]; rw [if_neg (by omega)]
    · rw [List.drop_eq_nil_of_le (by omega)]; exact Ev.now _
  | succ d ih =>
    intro i hi
    have hlt : i < l.length := by omega
    have hw : wrap64 ((i : Int) + 1) = ((i + 1 : Nat) : Int) := wrap64_small (by omega) (by omega)
    rw [List.drop_eq_getElem_cons hlt, List.any_cons]
    cases hc : Hand.inn l[i].f0 1 b with
    | true =>
      refine Ev.step (f := fun k => spec_flDrops.l0 k b l (l.length : Int) ((i + 1 : Nat) : Int)) (fun k => ?_) (by rw [Bool.not_true, Bool.false_or]; exact ih (i + 1) (by omega))
      simp only [spec_flDrops.l0]
      rw [if_pos (by omega), if_pos (by omega), if_pos (by omega), rd73_nat l i hlt, inn_some, hc, Option.bind_some, if_pos rfl, hw]
    | false =>
      refine Ev.step (f := fun _ => some false) (fun k => ?_) (by rw [Bool.not_false, Bool.true_or]; exact Ev.now _)
      simp only [spec_flDrops.l0]
      rw [if_pos (by omega), if_pos (by omega), if_pos (by omega), rd73_nat l i hlt, inn_some, hc, Option.bind_some, if_ff]
def tup (x : S73) : Int × Bool := (x.f0, x.f1)
theorem flFloors_some (a : Int) : spec_flFloors.f a = some (Hand.inn a 0 1000) := by unfold spec_flFloors.f; rw [inn_some, Option.bind_some]
theorem flDrops_ev (b : Int) (l : List S73) (hl : l.length < 1000000000000) : Ev (fun k => spec_flDrops.f k b l) (Hand.aDrop b (l.map tup)) := by
  unfold Hand.aDrop
  rw [List.length_map, List.any_map]
  cases hc : Hand.inn b 0 1000 with
  | true =>
    by_cases h : l.length ≤ 1000
    · rw [decide_eq_true h, Bool.and_true, Bool.true_and]
      refine Ev.congr (f := fun k => spec_flDrops.j0 k b l false) (fun k => ?_) (Ev.step (f := fun k => spec_flDrops.l0 k b l (l.length : Int) ((0 : Nat) : Int)) (fun k => ?_) (flDrops_go l b hl l.length 0 (by omega)))
      · unfold spec_flDrops.f
        rw [flFloors_some, hc, Option.bind_some, if_pos rfl, show decide ((l.length : Int) > 1000) = false from decide_eq_false (by omega)]
      · simp only [spec_flDrops.j0]; rw [if_ff]; rfl
    · rw [decide_eq_false h, Bool.and_false, Bool.false_and]
      refine Ev.congr (f := fun k => spec_flDrops.j0 k b l true) (fun k => ?_) (Ev.step (f := fun _ => some false) (fun k => ?_) (Ev.now _))
      · unfold spec_flDrops.f
        rw [flFloors_some, hc, Option.bind_some, if_pos rfl, show decide ((l.length : Int) > 1000) = true from decide_eq_true (by omega)]
      · simp only [spec_flDrops.j0]; exact if_pos trivial
  | false =>
    rw [Bool.false_and, Bool.false_and]
    refine Ev.congr (f := fun k => spec_flDrops.j0 k b l true) (fun k => ?_) (Ev.step (f := fun _ => some false) (fun k => ?_) (Ev.now _))
    · unfold spec_flDrops.f
      rw [flFloors_some, hc, Option.bind_some, if_ff]
    · simp only [spec_flDrops.j0]; exact if_pos trivial

theorem bt_data (s : ByteArray) (i : Nat) (h : i < s.data.toList.length) : bt s (i : Int) = ((s.data.toList[i]).toNat : Int) := by
  have h2 : i < s.size := by rw [Go.Lib.size_eq]; exact h
  unfold bt
  rw [dif_pos (by rw [Int.toNat_natCast]; exact h2)]
  congr 2
theorem l1Read_go (s : ByteArray) (hs : s.data.toList.length ≤ 6) (d : Nat) : ∀ i : Nat, i + d = s.data.toList.length → (s.data.toList.take i).all Hand.isDig = true →
    Ev (fun k => spec_l1Read.l0 k s (Hand.val (s.data.toList.take i) : Int) (i : Int)) (if s.data.toList.all Hand.isDig = true then (Hand.val s.data.toList : Int) else -1) := by
  induction d with
  | zero =>
    intro i hi ha
    have e : s.data.toList.take i = s.data.toList := List.take_of_length_le (by omega)
    rw [e] at ha ⊢
    rw [if_pos ha]
    refine Ev.step (f := fun _ => some (Hand.val s.data.toList : Int)) (fun k => ?_) (Ev.now _)
    simp only [spec_l1Read.l0]
    rw [if_neg (by rw [Go.Lib.size_eq]; omega)]
  | succ d ih =>
    intro i hi ha
    have hlt : i < s.data.toList.length := by omega
    have hb := bt_data s i hlt
    have hw : wrap64 ((i : Int) + 1) = ((i + 1 : Nat) : Int) := wrap64_small (by omega) (by omega)
    have hsz : (i : Int) < (s.size : Int) := by rw [Go.Lib.size_eq]; omega
    have hdig : s.data.toList.all Hand.isDig = true → 48 ≤ (s.data.toList[i]).toNat ∧ (s.data.toList[i]).toNat ≤ 57 := fun h => (Hand.isDig_iff _).1 (List.all_eq_true.1 h _ (List.getElem_mem hlt))
    have hl255 := (s.data.toList[i]).toNat_lt
    by_cases c1 : bt s (i : Int) < 48
    · refine Ev.step (f := fun _ => some (-1 : Int)) (fun k => ?_) ?_
      · simp only [spec_l1Read.l0]; rw [if_pos hsz, if_pos (by omega), if_pos c1]
      · rw [if_neg (fun h => by have := hdig h; omega)]; exact Ev.now _
    · by_cases c2 : bt s (i : Int) > 57
      · refine Ev.step (f := fun _ => some (-1 : Int)) (fun k => ?_) ?_
        · simp only [spec_l1Read.l0]; rw [if_pos hsz, if_pos (by omega), if_neg c1, if_pos c2]
        · rw [if_neg (fun h => by have := hdig h; omega)]; exact Ev.now _
      · have hd1 : Hand.isDig (s.data.toList[i]) = true := (Hand.isDig_iff _).2 (by omega)
        have ht : s.data.toList.take (i + 1) = s.data.toList.take i ++ [s.data.toList[i]] := List.take_succ_eq_append_getElem hlt
        have hv := Hand.val_lt _ ha
        have hp : 10 ^ (s.data.toList.take i).length ≤ 10 ^ 6 := Nat.pow_le_pow_right (by omega) (by rw [List.length_take]; omega)
        have h1 := ih (i + 1) (by omega) (by rw [ht, List.all_append, ha, List.all_cons, hd1]; rfl)
        rw [ht, Hand.val_snoc] at h1
        have hw1 : wrap64 (10 * (Hand.val (s.data.toList.take i) : Int)) = 10 * (Hand.val (s.data.toList.take i) : Int) := wrap64_small (by omega) (by omega)
        have hw2 : wrap64 (10 * (Hand.val (s.data.toList.take i) : Int) + (bt s (i : Int) - 48) % 256) = ((Hand.val (s.data.toList.take i) * 10 + ((s.data.toList[i]).toNat - 48) : Nat) : Int) := by rw [wrap64_small (by omega) (by omega)]; omega
        refine Ev.step (f := fun k => spec_l1Read.l0 k s ((Hand.val (s.data.toList.take i) * 10 + ((s.data.toList[i]).toNat - 48) : Nat) : Int) ((i + 1 : Nat) : Int)) (fun k => ?_) h1
        simp only [spec_l1Read.l0]
        rw [if_pos hsz, if_pos (by omega), if_neg c1, if_neg c2, hw1, hw2, hw]
theorem l1Read_ev (s : ByteArray) : Ev (fun k => spec_l1Read.f k s) (Hand.readNum s.data.toList) := by
  have hsz := Go.Lib.size_eq s
  by_cases h : 1 ≤ s.data.toList.length ∧ s.data.toList.length ≤ 6
  · have hg := l1Read_go s h.2 s.data.toList.length 0 (by omega) rfl
    rw [List.take_zero] at hg
    have hne : s.data.toList ≠ [] := fun e => by rw [e] at h; simp at h
    obtain ⟨c, r, hcr⟩ := List.exists_cons_of_ne_nil hne
    have hb : bt s 0 = (c.toNat : Int) := by
      have := bt_data s 0 (by omega)
      rw [show ((0 : Nat) : Int) = 0 from rfl] at this
      rw [this]
      congr 2
      simp [hcr]
    have hcan : Hand.readNum s.data.toList = if ((c.toNat = 48) ∧ r ≠ []) then -1 else (if s.data.toList.all Hand.isDig = true then (Hand.val s.data.toList : Int) else -1) := by
      have hA : Hand.canon s.data.toList = (s.data.toList.all Hand.isDig && (r.isEmpty || decide (c.toNat ≠ 48))) := by rw [hcr]; rfl
      unfold Hand.readNum
      rw [hA]
      have h6 := h.2
      generalize s.data.toList.all Hand.isDig = D
      generalize Hand.val s.data.toList = V
      generalize s.data.toList.length = n at h6
      by_cases c1 : c.toNat = 48 <;> by_cases c2 : r = [] <;> cases D <;> simp [c1, c2, h6]
    rw [hcan]
    have hrl : r ≠ [] ↔ (s.size : Int) > 1 := by
      rw [hsz, hcr, List.length_cons]
      cases r with
      | nil => simp
      | cons x y => simp; omega
    by_cases c1 : bt s 0 = 48
    · by_cases c2 : (s.size : Int) > 1
      · rw [if_pos ⟨by omega, hrl.2 c2⟩]
        refine Ev.congr (f := fun k => spec_l1Read.j0 k s true) (fun k => ?_) (Ev.step (f := fun _ => some (-1 : Int)) (fun k => ?_) (Ev.now _))
        · unfold spec_l1Read.f
          rw [l1In_yes (by omega), Option.bind_some, if_pos rfl, if_pos (by omega), if_pos c1, decide_eq_true c2]
        · simp only [spec_l1Read.j0]; rw [if_pos trivial]
      · rw [if_neg (fun h2 => c2 (hrl.1 h2.2))]
        refine Ev.congr (f := fun k => spec_l1Read.j0 k s false) (fun k => ?_) (Ev.step (f := fun k => spec_l1Read.l0 k s 0 0) (fun k => ?_) hg)
        · unfold spec_l1Read.f
          rw [l1In_yes (by omega), Option.bind_some, if_pos rfl, if_pos (by omega), if_pos c1, decide_eq_false c2]
        · simp only [spec_l1Read.j0]; rw [if_neg (by simp)]
    · rw [if_neg (fun h2 => c1 (by omega))]
      refine Ev.congr (f := fun k => spec_l1Read.j0 k s false) (fun k => ?_) (Ev.step (f := fun k => spec_l1Read.l0 k s 0 0) (fun k => ?_) hg)
      · unfold spec_l1Read.f
        rw [l1In_yes (by omega), Option.bind_some, if_pos rfl, if_pos (by omega), if_neg c1]
      · simp only [spec_l1Read.j0]; rw [if_neg (by simp)]
  · have hr : Hand.readNum s.data.toList = -1 := by
      unfold Hand.readNum
      rw [if_neg]
      rintro ⟨h1, h2⟩
      refine h ⟨?_, h2⟩
      cases e : s.data.toList with
      | nil => rw [e] at h1; cases h1
      | cons c r => simp
    rw [hr]
    refine Ev.congr (f := fun k => spec_l1Read.j0 k s true) (fun k => ?_) (Ev.step (f := fun _ => some (-1 : Int)) (fun k => ?_) (Ev.now _))
    · unfold spec_l1Read.f
      rw [l1In_no (by omega), Option.bind_some, if_ff]
    · simp only [spec_l1Read.j0]; rw [if_pos trivial]

/-! ### the law's own reading and marking -/
theorem eqDropS_go (l : List S73) (hl : l.length < 1000000000000) (d : Nat) : ∀ i : Nat, i + d = l.length → Ev (fun k => laws_eqDropS.l0 k l l (i : Int)) true := by
  induction d with
  | zero =>
    intro i hi
    exact Ev.step (f := fun _ => some true) (fun k => by simp only [laws_eqDropS.l0]; rw [if_neg (by omega)]) (Ev.now _)
  | succ d ih =>
    intro i hi
    have hw : wrap64 ((i : Int) + 1) = ((i + 1 : Nat) : Int) := wrap64_small (by omega) (by omega)
    refine Ev.step (f := fun k => laws_eqDropS.l0 k l l ((i + 1 : Nat) : Int)) (fun k => ?_) (ih (i + 1) (by omega))
    simp only [laws_eqDropS.l0]
    rw [if_pos (by omega), if_pos (by omega), if_pos (by omega)]
    unfold laws_eqDrop.f
    rw [if_pos rfl, if_neg (by simp), Option.bind_some, if_pos rfl, hw]
theorem eqDropS_self (l : List S73) (hl : l.length < 1000000000000) : Ev (fun k => laws_eqDropS.f k l l) true :=
  Ev.congr (f := fun k => laws_eqDropS.l0 k l l ((0 : Nat) : Int)) (fun k => by unfold laws_eqDropS.f; rw [if_pos rfl]; rfl) (eqDropS_go l hl l.length 0 (by omega))
def markOf (a : Int) : S73 := ⟨a, (Int.tmod (a + 1) 3 == 0)⟩
def marksOf (a : Int) : Nat → List S73
  | 0 => []
  | n + 1 => markOf a :: marksOf (a + 2) n
theorem marksOf_len (n : Nat) : ∀ a, (marksOf a n).length = n := by
  induction n with
  | zero => intro a; rfl
  | succ n ih => intro a; unfold marksOf; rw [List.length_cons, ih]
theorem set_mid {α : Type} (A B : List α) (b v : α) : (A ++ b :: B).set A.length v = A ++ v :: B := by simp [List.set_append]
theorem rd_mid (A B : List S73) (b : S73) : rd_T73 (A ++ b :: B) (A.length : Int) = b := by rw [rd73_nat _ _ (by simp)]; simp
theorem mark_go (B : List S73) : ∀ (A : List S73) (a : Int), 0 ≤ a → a + 2 * (B.length : Int) < 1000000000000 → A.length + B.length < 1000000000000 → Ev (fun k => laws_markDropS.l0 k (A ++ B) a (A.length : Int)) (a + 2 * (B.length : Int), A ++ marksOf a B.length) := by
  induction B with
  | nil =>
    intro A a h0 h1 h2
    refine Ev.step (f := fun _ => some (a, A)) (fun k => ?_) ?_
    · simp only [laws_markDropS.l0]; rw [List.append_nil, if_neg (by omega)]
    · rw [show (([] : List S73).length : Int) = 0 from rfl, Int.mul_zero, Int.add_zero]
      show Ev _ (a, A ++ [])
      rw [List.append_nil]
      exact Ev.now _
  | cons b B ih =>
    intro A a h0 h1 h2
    rw [List.length_cons] at h1 h2
    have hw1 : wrap64 (a + 1) = a + 1 := wrap64_small (by omega) (by omega)
    have hw2 : wrap64 (a + 1 + 1) = a + 2 := (wrap64_small (by omega) (by omega)).trans (by omega)
    have hw3 : wrap64 ((A.length : Int) + 1) = ((A ++ [markOf a]).length : Int) := by rw [List.length_append, List.length_singleton, wrap64_small (by omega) (by omega)]; omega
    have h3 := ih (A ++ [markOf a]) (a + 2) (by omega) (by omega) (by rw [List.length_append, List.length_singleton]; omega)
    rw [List.append_assoc, List.append_assoc, List.singleton_append, List.singleton_append] at h3
    refine Ev.step (f := fun k => laws_markDropS.l0 k (A ++ markOf a :: B) (a + 2) ((A ++ [markOf a]).length : Int)) (fun k => ?_) ?_
    · simp only [laws_markDropS.l0]
      rw [if_pos (by rw [List.length_append, List.length_cons]; omega), if_pos (by omega), Option.bind_some, Int.toNat_natCast, set_mid, set_mid, rd_mid, rd_mid, hw1, hw2, hw3]
      rfl
    · rw [List.length_cons, show a + 2 * ((B.length + 1 : Nat) : Int) = a + 2 + 2 * (B.length : Int) by omega]
      exact h3
theorem held_go (n : Nat) : ∀ (A : List S73) (a : Int), 0 ≤ a → a + 2 * (n : Int) < 1000000000000 → A.length + n < 1000000000000 → Ev (fun k => laws_heldDropS.l0 k (A ++ marksOf a n) a (A.length : Int)) (a + 2 * (n : Int)) := by
  induction n with
  | zero =>
    intro A a h0 h1 h2
    refine Ev.step (f := fun _ => some a) (fun k => ?_) ?_
    · simp only [laws_heldDropS.l0]; show (if (A.length : Int) < ((A ++ []).length : Int) then _ else _) = _; rw [List.append_nil, if_neg (by omega)]
    · rw [show a + 2 * ((0 : Nat) : Int) = a by omega]; exact Ev.now _
  | succ n ih =>
    intro A a h0 h1 h2
    have hw1 : wrap64 (a + 1) = a + 1 := wrap64_small (by omega) (by omega)
    have hw2 : wrap64 (a + 1 + 1) = a + 2 := (wrap64_small (by omega) (by omega)).trans (by omega)
    have hw3 : wrap64 ((A.length : Int) + 1) = ((A ++ [markOf a]).length : Int) := by rw [List.length_append, List.length_singleton, wrap64_small (by omega) (by omega)]; omega
    have h3 := ih (A ++ [markOf a]) (a + 2) (by omega) (by omega) (by rw [List.length_append, List.length_singleton]; omega)
    rw [List.append_assoc, List.singleton_append] at h3
    refine Ev.step (f := fun k => laws_heldDropS.l0 k (A ++ markOf a :: marksOf (a + 2) n) (a + 2) ((A ++ [markOf a]).length : Int)) (fun k => ?_) ?_
    · simp only [laws_heldDropS.l0]
      show (if (A.length : Int) < ((A ++ markOf a :: marksOf (a + 2) n).length : Int) then _ else _) = _
      have e : marksOf a (n + 1) = markOf a :: marksOf (a + 2) n := rfl
      rw [e, if_pos (by rw [List.length_append, List.length_cons]; omega), if_pos (by omega), rd_mid, hw1, hw2, hw3]
      show (if a = a then _ else _) = _
      rw [if_pos rfl]
      show (if ((Int.tmod (a + 1) 3 == 0) != (Int.tmod (a + 1) 3 == 0)) = true then _ else _) = _
      rw [if_neg (by simp)]
    · rw [show a + 2 * ((n + 1 : Nat) : Int) = a + 2 + 2 * (n : Int) by omega]
      exact h3
theorem mark_heldD (l : List S73) (hl : l.length < 1000000000) : ∃ r, Ev (fun k => laws_markDropS.f k l 101) (101 + 2 * (l.length : Int), r) ∧ Ev (fun k => laws_heldDropS.f k r 101) (101 + 2 * (l.length : Int)) := by
  refine ⟨marksOf 101 l.length, ?_, ?_⟩
  · have := mark_go l [] 101 (by omega) (by omega) (by simp; omega)
    exact this
  · have := held_go l.length [] 101 (by omega) (by omega) (by simp; omega)
    exact this

/-! ### texts of drops -/
def sg (q : Bool) : UInt8 := if q then 33 else 46
def flat (ws : List (List UInt8 × Bool)) : List UInt8 := ws.flatMap fun x => x.1 ++ [sg x.2]
def clean (w : List UInt8) : Prop := ∀ b ∈ w, b ≠ 33 ∧ b ≠ 46
theorem sg_cases (q : Bool) : sg q = 33 ∨ sg q = 46 := by cases q <;> simp [sg]
theorem sg_inj {q p : Bool} (h : sg q = sg p) : q = p := by cases q <;> cases p <;> first | rfl | (revert h; decide)
theorem flat_cons (x : List UInt8 × Bool) (r : List (List UInt8 × Bool)) : flat (x :: r) = x.1 ++ sg x.2 :: flat r := by unfold flat; simp
theorem head_eq {w w' : List UInt8} {q q' : Bool} {r r' : List UInt8} (hw : clean w) (hw' : clean w') (h : w ++ sg q :: r = w' ++ sg q' :: r') : w = w' ∧ q = q' ∧ r = r' := by
  induction w generalizing w' with
  | nil =>
    cases w' with
    | nil => simp at h; exact ⟨rfl, sg_inj h.1, h.2⟩
    | cons b w' =>
      simp at h
      have h2 := hw' b (List.mem_cons_self ..)
      rcases sg_cases q with e | e
      · exact absurd (h.1.symm.trans e) h2.1
      · exact absurd (h.1.symm.trans e) h2.2
  | cons a w ih =>
    cases w' with
    | nil =>
      simp at h
      have h2 := hw a (List.mem_cons_self ..)
      rcases sg_cases q' with e | e
      · exact absurd (h.1.trans e) h2.1
      · exact absurd (h.1.trans e) h2.2
    | cons b w' =>
      simp at h
      obtain ⟨h1, h2, h3⟩ := ih (fun b hb => hw b (List.mem_cons_of_mem _ hb)) (fun b hb => hw' b (List.mem_cons_of_mem _ hb)) h.2
      exact ⟨by rw [h.1, h1], h2, h3⟩
theorem flat_tail {x : List UInt8 × Bool} {r : List (List UInt8 × Bool)} {t t' : List UInt8} (ht : clean t') (h : flat (x :: r) ++ t = t') : False := by
  rw [flat_cons, List.append_assoc, List.cons_append] at h
  have h2 := ht (sg x.2) (by rw [← h]; simp)
  rcases sg_cases x.2 with e | e
  · exact h2.1 e
  · exact h2.2 e
theorem flat_uniq (ws : List (List UInt8 × Bool)) : ∀ (ws' : List (List UInt8 × Bool)) (t t' : List UInt8), (∀ x ∈ ws, clean x.1) → (∀ x ∈ ws', clean x.1) → clean t → clean t' → flat ws ++ t = flat ws' ++ t' → ws = ws' ∧ t = t' := by
  induction ws with
  | nil =>
    intro ws' t t' h1 h2 h3 h4 h
    cases ws' with
    | nil => exact ⟨rfl, h⟩
    | cons x r => exact (flat_tail h3 h.symm).elim
  | cons x ws ih =>
    intro ws' t t' h1 h2 h3 h4 h
    cases ws' with
    | nil => exact (flat_tail h4 h).elim
    | cons y r =>
      rw [flat_cons, flat_cons, List.append_assoc, List.cons_append, List.append_assoc, List.cons_append] at h
      obtain ⟨e1, e2, e3⟩ := head_eq (h1 x (List.mem_cons_self ..)) (h2 y (List.mem_cons_self ..)) h
      obtain ⟨e4, e5⟩ := ih r t t' (fun z hz => h1 z (List.mem_cons_of_mem _ hz)) (fun z hz => h2 z (List.mem_cons_of_mem _ hz)) h3 h4 e3
      exact ⟨by rw [e4, Prod.ext e1 e2], e5⟩
theorem digs_clean (n : Nat) : clean (Go.Lib.decDigits n) := by
  intro b hb
  have h1 := (Hand.isDig_iff b).1 (List.all_eq_true.1 (Hand.digs_all n) b hb)
  refine ⟨fun e => ?_, fun e => ?_⟩
  · rw [e] at h1; exact absurd h1.1 (by decide)
  · rw [e] at h1; exact absurd h1.1 (by decide)
def wordsOf (out : List S73) : List (List UInt8 × Bool) := out.map fun x => (Go.Lib.decDigits x.f0.toNat, x.f1)
theorem text_flat (out : List S73) : Hand.dropsT (out.map tup) = flat (wordsOf out) := by
  unfold Hand.dropsT flat wordsOf
  rw [List.flatMap_map, List.flatMap_map]
  rfl
def mkS (x : List UInt8 × Bool) : S73 := ⟨Hand.readNum x.1, x.2⟩
theorem valid_mem {out : List S73} (h : Hand.aDrop 1000 (out.map tup) = true) : out.length ≤ 1000 ∧ ∀ x ∈ out, 1 ≤ x.f0 ∧ x.f0 ≤ 1000 := by
  unfold Hand.aDrop at h
  rw [Bool.and_eq_true, Bool.and_eq_true, decide_eq_true_eq, List.length_map] at h
  obtain ⟨⟨h1, h2⟩, h3⟩ := h
  refine ⟨h2, fun x hx => ?_⟩
  rw [Bool.not_eq_true', List.any_eq_false] at h3
  have h4 := h3 (tup x) (List.mem_map.2 ⟨x, hx, rfl⟩)
  have h5 : Hand.inn x.f0 1 1000 = true := by simpa [tup] using h4
  rw [inn_dec, decide_eq_true_eq] at h5
  exact h5
theorem read_digs (n : Int) (h0 : 0 ≤ n) (h1 : n < 1000000) : Hand.readNum (Go.Lib.decDigits n.toNat) = n := by
  have h := Hand.wordNum_digs n.toNat (by omega)
  exact (Hand.readNum_to h (by omega) (by omega)).trans (by omega)
theorem words_back (out : List S73) (h : ∀ x ∈ out, 1 ≤ x.f0 ∧ x.f0 ≤ 1000) : (wordsOf out).map mkS = out := by
  unfold wordsOf
  rw [List.map_map]
  refine (List.map_congr_left fun x hx => ?_).trans (List.map_id out)
  have h1 := h x hx
  show (⟨Hand.readNum (Go.Lib.decDigits x.f0.toNat), x.f1⟩ : S73) = x
  rw [read_digs x.f0 (by omega) (by omega)]
theorem words_clean (out : List S73) : ∀ x ∈ wordsOf out, clean x.1 := by
  intro x hx
  obtain ⟨y, _, rfl⟩ := List.mem_map.1 hx
  exact digs_clean _
theorem flat_len (ws : List (List UInt8 × Bool)) (m : Nat) (h : ∀ x ∈ ws, x.1.length ≤ m) : (flat ws).length ≤ ws.length * (m + 1) := by
  induction ws with
  | nil => simp [flat]
  | cons x r ih =>
    have h1 := ih fun y hy => h y (List.mem_cons_of_mem _ hy)
    have h2 := h x (List.mem_cons_self ..)
    rw [flat_cons, List.length_append, List.length_cons, List.length_cons, Nat.add_mul, Nat.one_mul]
    omega
theorem text_len (out : List S73) (h : Hand.aDrop 1000 (out.map tup) = true) : (Hand.dropsT (out.map tup)).length ≤ 5000 := by
  obtain ⟨h1, h2⟩ := valid_mem h
  rw [text_flat]
  have h3 := flat_len (wordsOf out) 4 fun x hx => by
    obtain ⟨y, hy, rfl⟩ := List.mem_map.1 hx
    have h4 := h2 y hy
    show (Go.Lib.decDigits y.f0.toNat).length ≤ 4
    rw [Go.Lib.decDigits_length]
    exact Hand.ndig_le _ 4 (by omega) (by omega)
  have h5 : (wordsOf out).length = out.length := List.length_map ..
  omega

/-! ### the reference -/
def fin (ws : List (List UInt8 × Bool)) (t : List UInt8) : List S73 × Bool := if t = [] ∧ Hand.aDrop 1000 ((ws.map mkS).map tup) = true then (ws.map mkS, true) else ([], false)
theorem extract_one (s : ByteArray) (i : Nat) (h : i < s.data.toList.length) : (s.extract i (i + 1)).data.toList = [s.data.toList[i]] := by
  rw [Go.Lib.extract_data, Nat.add_sub_cancel_left, List.drop_eq_getElem_cons h]
  rfl
theorem spec_loop (s : ByteArray) (hs : s.data.toList.length ≤ 5000) (d : Nat) : ∀ (i : Nat) (ws : List (List UInt8 × Bool)) (word : ByteArray), i + d = s.data.toList.length → s.data.toList.take i = flat ws ++ word.data.toList → (∀ x ∈ ws, clean x.1) → clean word.data.toList → ws.length ≤ i → word.data.toList.length ≤ i →
    ∃ ws' t, s.data.toList = flat ws' ++ t ∧ (∀ x ∈ ws', clean x.1) ∧ clean t ∧ Ev (fun k => spec_flParse.l0 k s (ws.map mkS) word (i : Int)) (fin ws' t) := by
  have hsz := Go.Lib.size_eq s
  induction d with
  | zero =>
    intro i ws word hi ht hc1 hc2 hl1 hl2
    rw [List.take_of_length_le (by omega)] at ht
    refine ⟨ws, word.data.toList, ht, hc1, hc2, ?_⟩
    have hd := flDrops_ev 1000 (ws.map mkS) (by rw [List.length_map]; omega)
    unfold fin
    by_cases hw : word.data.toList = []
    · cases hg : Hand.aDrop 1000 ((ws.map mkS).map tup) with
      | true =>
        rw [hg] at hd
        rw [if_pos ⟨hw, rfl⟩]
        refine Ev.step (f := fun k => (spec_flDrops.f k 1000 (ws.map mkS)).bind fun t115 => (if t115 = true then (some (ws.map mkS, true)) else (some (([] : List (S73)), false)))) (fun k => ?_) (Ev.bind hd (Ev.congr (fun k => if_pos rfl) (Ev.now _)))
        simp only [spec_flParse.l0]; rw [if_neg (by omega), if_pos (by rw [Go.Lib.toList_data]; exact hw)]
      | false =>
        rw [hg] at hd
        rw [if_neg (fun h => by cases h.2)]
        refine Ev.step (f := fun k => (spec_flDrops.f k 1000 (ws.map mkS)).bind fun t115 => (if t115 = true then (some (ws.map mkS, true)) else (some (([] : List (S73)), false)))) (fun k => ?_) (Ev.bind hd (Ev.congr (fun k => if_ff _ _) (Ev.now _)))
        simp only [spec_flParse.l0]; rw [if_neg (by omega), if_pos (by rw [Go.Lib.toList_data]; exact hw)]
    · rw [if_neg (fun h => hw h.1)]
      refine Ev.step (f := fun _ => some ([], false)) (fun k => ?_) (Ev.now _)
      simp only [spec_flParse.l0]; rw [if_neg (by omega), if_neg (by rw [Go.Lib.toList_data]; exact hw)]
  | succ d ih =>
    intro i ws word hi ht hc1 hc2 hl1 hl2
    have hlt : i < s.data.toList.length := by omega
    have hb := bt_data s i hlt
    have hw : wrap64 ((i : Int) + 1) = ((i + 1 : Nat) : Int) := wrap64_small (by omega) (by omega)
    have htk : s.data.toList.take (i + 1) = flat ws ++ word.data.toList ++ [s.data.toList[i]] := by rw [List.take_succ_eq_append_getElem hlt, ht]
    have hempty : (⟨#[]⟩ : ByteArray).data.toList = [] := rfl
    have hsign : ∀ q : Bool, s.data.toList[i] = sg q → ∃ ws' t, s.data.toList = flat ws' ++ t ∧ (∀ x ∈ ws', clean x.1) ∧ clean t ∧ Ev (fun k => spec_flParse.l0 k s (ws.map mkS ++ [(⟨Hand.readNum word.data.toList, q⟩ : S73)]) (⟨#[]⟩ : ByteArray) ((i + 1 : Nat) : Int)) (fin ws' t) := by
      intro q hq
      obtain ⟨ws', t, e1, e2, e3, e4⟩ := ih (i + 1) (ws ++ [(word.data.toList, q)]) (⟨#[]⟩ : ByteArray) (by omega) (by
          rw [htk, hq, hempty, List.append_nil]
          unfold flat
          rw [List.flatMap_append]
          simp) (by
          intro x hx
          rcases List.mem_append.1 hx with h | h
          · exact hc1 x h
          · rw [List.mem_singleton.1 h]; exact hc2) (by rw [hempty]; intro b hb; cases hb) (by rw [List.length_append, List.length_singleton]; omega) (by rw [hempty]; exact Nat.zero_le _)
      rw [List.map_append] at e4
      exact ⟨ws', t, e1, e2, e3, e4⟩
    by_cases c1 : bt s (i : Int) = 33
    · have hx : s.data.toList[i] = 33 := by
        apply UInt8.toNat_inj.1
        show _ = 33
        omega
      obtain ⟨ws', t, e1, e2, e3, e4⟩ := hsign true hx
      refine ⟨ws', t, e1, e2, e3, Ev.step (f := fun k => (spec_l1Read.f k word).bind fun t107 => (if (ws.map mkS).length < 8796093022208 then (spec_flParse.l0 k s (ws.map mkS ++ [(⟨t107, ((bt s (i : Int)) == 33)⟩ : S73)]) (⟨#[]⟩ : ByteArray) ((i + 1 : Nat) : Int)) else (none))) (fun k => ?_) (Ev.bind (l1Read_ev word) (Ev.congr (fun k => if_pos (by rw [List.length_map]; omega)) ?_))⟩
      · simp only [spec_flParse.l0]; rw [if_pos (by omega), if_pos (by omega), if_pos c1, hw]
      · rw [show ((bt s (i : Int)) == 33) = true from beq_iff_eq.2 c1]; exact e4
    · by_cases c2 : bt s (i : Int) = 46
      · have hx : s.data.toList[i] = 46 := by
          apply UInt8.toNat_inj.1
          show _ = 46
          omega
        obtain ⟨ws', t, e1, e2, e3, e4⟩ := hsign false hx
        refine ⟨ws', t, e1, e2, e3, Ev.step (f := fun k => (spec_l1Read.f k word).bind fun t111 => (if (ws.map mkS).length < 8796093022208 then (spec_flParse.l0 k s (ws.map mkS ++ [(⟨t111, ((bt s (i : Int)) == 33)⟩ : S73)]) (⟨#[]⟩ : ByteArray) ((i + 1 : Nat) : Int)) else (none))) (fun k => ?_) (Ev.bind (l1Read_ev word) (Ev.congr (fun k => if_pos (by rw [List.length_map]; omega)) ?_))⟩
        · simp only [spec_flParse.l0]; rw [if_pos (by omega), if_pos (by omega), if_neg c1, if_pos c2, hw]
        · rw [show ((bt s (i : Int)) == 33) = false from beq_eq_false_iff_ne.2 c1]; exact e4
      · have hx := extract_one s i hlt
        have happ : (word ++ s.extract i (i + 1)).data.toList = word.data.toList ++ [s.data.toList[i]] := by rw [ByteArray.data_append, Array.toList_append, hx]
        obtain ⟨ws', t, e1, e2, e3, e4⟩ := ih (i + 1) ws (word ++ s.extract i (i + 1)) (by omega) (by rw [htk, happ, List.append_assoc]) hc1 (by
            rw [happ]
            intro b hb2
            rcases List.mem_append.1 hb2 with h | h
            · exact hc2 b h
            · rw [List.mem_singleton.1 h]
              refine ⟨fun e => c1 ?_, fun e => c2 ?_⟩
              · rw [hb, e]; rfl
              · rw [hb, e]; rfl) (by omega) (by rw [happ, List.length_append, List.length_singleton]; omega)
        refine ⟨ws', t, e1, e2, e3, Ev.step (f := fun k => spec_flParse.l0 k s (ws.map mkS) (word ++ s.extract i (i + 1)) ((i + 1 : Nat) : Int)) (fun k => ?_) e4⟩
        have hsw := Go.Lib.size_eq word
        have hse : (s.extract i (i + 1)).size = 1 := by rw [Go.Lib.size_eq, hx]; rfl
        simp only [spec_flParse.l0]
        rw [if_pos (by omega), if_pos (by omega), if_neg c1, if_neg c2, hw, if_pos (by omega), if_pos (by omega), Int.toNat_natCast, Int.toNat_natCast, if_pos (by rw [hse]; omega)]

/-! ### the program -/
theorem any_lt (cs : List UInt8) : ∀ l : List UInt8, Go.Lib.indexAny l cs < (l.length : Int)
  | [] => by show (-1 : Int) < 0; omega
  | b :: l => by
    have ih := any_lt cs l
    unfold Go.Lib.indexAny
    rw [List.length_cons]
    split
    · omega
    · split <;> omega
theorem any_some (s : ByteArray) (hs : s.size ≤ 1000000) : strings_IndexAny.f s (⟨#[33, 46]⟩ : ByteArray) = some (Go.Lib.indexAny s.data.toList Hand.signsL) := by
  unfold strings_IndexAny.f
  rw [if_pos ⟨hs, rfl⟩]
theorem atoi_some (s : ByteArray) (hs : s.size ≤ 1000000) : strconv_Atoi.f s = some (atoiPair s.data.toList) := by
  unfold strconv_Atoi.f
  rw [if_pos hs]
theorem walk_facts (m S : Nat) (h : m < S) (hS : S ≤ 1000000) : ¬ ((m : Int) < 0) ∧ (0 : Int) ≤ (m : Int) ∧ (m : Int) ≤ (S : Int) ∧ (m : Int) < (S : Int) ∧ (0 : Int) ≤ ((m + 1 : Nat) : Int) ∧ ((m + 1 : Nat) : Int) ≤ (S : Int) ∧ wrap64 ((m : Int) + 1) = ((m + 1 : Nat) : Int) :=
  ⟨by omega, by omega, by omega, by omega, by omega, by omega, wrap64_small (by omega) (by omega)⟩
theorem len_lt (n : Nat) (h : n ≤ 1001) : n < 8796093022208 := by omega
theorem fin_no (s : ByteArray) (x5 : ByteArray) (hno : ∀ out : List S73, ¬ (Hand.aDrop 1000 (out.map tup) = true ∧ Hand.dropsT (out.map tup) = s.data.toList)) (out : List S73) : Ev (fun k => impl_ParseDrops.j1 k s out x5 false) ([], false) := by
  refine Ev.step (f := fun _ => some ([], false)) (fun k => ?_) (Ev.now _)
  simp only [impl_ParseDrops.j1]
  rw [if_ff]
  unfold impl_AreDrops.f
  show ((some (Hand.aDrop 1000 (out.map tup))).bind _) = _
  rw [Option.bind_some]
  cases hg : Hand.aDrop 1000 (out.map tup) with
  | false => rw [if_ff]
  | true =>
    rw [if_pos rfl]
    have e : impl_dropsText.f out = some (⟨(Hand.dropsT (out.map tup)).toArray⟩ : ByteArray) := by unfold impl_dropsText.f; exact if_pos hg
    rw [e, Option.bind_some, if_neg]
    rw [Go.Lib.toList_data, Go.Lib.toList_data]
    intro h
    exact hno out ⟨hg, h⟩
theorem impl_no (s : ByteArray) (hno : ∀ out : List S73, ¬ (Hand.aDrop 1000 (out.map tup) = true ∧ Hand.dropsT (out.map tup) = s.data.toList)) (n : Nat) : ∀ (rest : ByteArray) (out : List S73), rest.size ≤ n → rest.size ≤ 1000000 → out.length ≤ 1001 → Ev (fun k => impl_ParseDrops.l0 k s out rest) ([], false) := by
  induction n with
  | zero =>
    intro rest out hn _ _
    have h0 : rest.data.toList = [] := List.length_eq_zero_iff.1 (by rw [← Go.Lib.size_eq]; omega)
    refine Ev.step (f := fun k => impl_ParseDrops.j1 k s out rest false) (fun k => ?_) (fin_no s rest hno out)
    simp only [impl_ParseDrops.l0]
    rw [if_pos (by rw [Go.Lib.toList_data]; exact h0)]
  | succ n ih =>
    intro rest out hn hm hl
    by_cases h0 : rest.data.toList = []
    · refine Ev.step (f := fun k => impl_ParseDrops.j1 k s out rest false) (fun k => ?_) (fin_no s rest hno out)
      simp only [impl_ParseDrops.l0]
      rw [if_pos (by rw [Go.Lib.toList_data]; exact h0)]
    · by_cases hc : (out.length : Int) ≤ 1000
      · refine Ev.step (f := fun k => impl_ParseDrops.j1 k s out rest true) (fun k => ?_) ?_
        · simp only [impl_ParseDrops.l0]
          rw [if_neg (by rw [Go.Lib.toList_data]; exact h0), decide_eq_true hc]
        · have hsz := Go.Lib.size_eq rest
          have hlt := any_lt Hand.signsL rest.data.toList
          have hga := Go.Lib.indexAny_ge Hand.signsL rest.data.toList
          have ha := any_some rest hm
          generalize Go.Lib.indexAny rest.data.toList Hand.signsL = t at *
          by_cases ht : t < 0
          · refine Ev.step (f := fun _ => some ([], false)) (fun k => ?_) (Ev.now _)
            simp only [impl_ParseDrops.j1]
            rw [if_pos trivial, ha, Option.bind_some, if_pos ht]
          · obtain ⟨m, rfl⟩ := Int.eq_ofNat_of_zero_le (by omega : 0 ≤ t)
            have hes : (rest.extract 0 m).size ≤ 1000000 := by rw [Go.Lib.size_eq, Go.Lib.extract_from_zero, List.length_take]; omega
            have hat := atoi_some (rest.extract 0 m) hes
            obtain ⟨f1, f2, f3, f4, f5, f6, f7⟩ := walk_facts m rest.size (by omega) hm
            rcases hp : atoiPair (rest.extract 0 m).data.toList with ⟨v, er⟩
            rw [hp] at hat
            cases er with
            | some q =>
              refine Ev.step (f := fun _ => some ([], false)) (fun k => ?_) (Ev.now _)
              simp only [impl_ParseDrops.j1]
              rw [if_pos trivial, ha, Option.bind_some, if_neg f1, if_pos f2, if_pos f3, Int.toNat_natCast, hat, Option.bind_some, if_neg (show ¬ ((v, some q).2.isNone = true) from fun h => by cases h)]
            | none =>
              have h1 := ih (rest.extract (m + 1) rest.size) (out ++ [(⟨v, ((bt rest (m : Int)) == 33)⟩ : S73)]) (by rw [Go.Lib.size_eq, Go.Lib.extract_to_end, List.length_drop]; omega) (by rw [Go.Lib.size_eq, Go.Lib.extract_to_end, List.length_drop]; omega) (by rw [List.length_append, List.length_singleton]; omega)
              refine Ev.step (f := fun k => impl_ParseDrops.l0 k s (out ++ [(⟨v, ((bt rest (m : Int)) == 33)⟩ : S73)]) (rest.extract (m + 1) rest.size)) (fun k => ?_) h1
              simp only [impl_ParseDrops.j1]
              rw [if_pos trivial, ha, Option.bind_some, if_neg f1, if_pos f2, if_pos f3, Int.toNat_natCast, hat, Option.bind_some, if_pos (show ((v, (none : Option Int)).2.isNone = true) from rfl), if_pos f4, if_pos (len_lt _ hl), f7, if_pos f5, if_pos f6, Int.toNat_natCast]
      · refine Ev.step (f := fun k => impl_ParseDrops.j1 k s out rest false) (fun k => ?_) (fin_no s rest hno out)
        simp only [impl_ParseDrops.l0]
        rw [if_neg (by rw [Go.Lib.toList_data]; exact h0), decide_eq_false hc]
theorem atoi_pair_digs (n : Nat) (h : n < 9223372036854775808) : atoiPair (Go.Lib.decDigits n) = ((n : Int), none) := by
  unfold atoiPair
  rw [Hand.atoi_digs n h]
theorem noAny_clean (w : List UInt8) (r : List UInt8) (h : clean w) : Go.Lib.NoAny (w ++ r) Hand.signsL w.length := by
  intro j b hj hb
  rw [List.getElem?_append_left hj] at hb
  have h1 := h b (List.mem_of_getElem? hb)
  unfold Hand.signsL
  simp [h1.1, h1.2]
theorem impl_yes (s : ByteArray) (out : List S73) (hv : Hand.aDrop 1000 (out.map tup) = true) (ht : Hand.dropsT (out.map tup) = s.data.toList) (d : Nat) : ∀ (j : Nat) (rest : ByteArray), j + d = out.length → rest.data.toList = flat (wordsOf (out.drop j)) → Ev (fun k => impl_ParseDrops.l0 k s (out.take j) rest) (out, true) := by
  obtain ⟨hl, hm⟩ := valid_mem hv
  have h5 := text_len out hv
  induction d with
  | zero =>
    intro j rest hj hr
    rw [List.drop_eq_nil_of_le (by omega)] at hr
    rw [List.take_of_length_le (by omega)]
    have h0 : rest.data.toList = [] := hr
    refine Ev.step (f := fun k => impl_ParseDrops.j1 k s out rest false) (fun k => ?_) (Ev.step (f := fun _ => some (out, true)) (fun k => ?_) (Ev.now _))
    · simp only [impl_ParseDrops.l0]
      rw [if_pos (by rw [Go.Lib.toList_data]; exact h0)]
    · simp only [impl_ParseDrops.j1]
      rw [if_ff]
      unfold impl_AreDrops.f
      show ((some (Hand.aDrop 1000 (out.map tup))).bind _) = _
      have e : impl_dropsText.f out = some (⟨(Hand.dropsT (out.map tup)).toArray⟩ : ByteArray) := by unfold impl_dropsText.f; exact if_pos hv
      rw [Option.bind_some, hv, if_pos rfl, e, Option.bind_some, if_pos]
      rw [Go.Lib.toList_data, Go.Lib.toList_data]
      exact ht
  | succ d ih =>
    intro j rest hj hr
    have hlt : j < out.length := by omega
    have hmj := hm out[j] (List.getElem_mem hlt)
    obtain ⟨n, hn⟩ := Int.eq_ofNat_of_zero_le (by omega : 0 ≤ (out[j]).f0)
    have hr2 : rest.data.toList = Go.Lib.decDigits n ++ sg (out[j]).f1 :: flat (wordsOf (out.drop (j + 1))) := by
      rw [hr, List.drop_eq_getElem_cons hlt]
      show flat ((Go.Lib.decDigits (out[j]).f0.toNat, (out[j]).f1) :: wordsOf (out.drop (j + 1))) = _
      rw [flat_cons, hn, Int.toNat_natCast]
    have hsz := Go.Lib.size_eq rest
    have hrl : rest.data.toList.length ≤ 5000 := by
      have h6 : (flat (wordsOf (out.drop j))).length ≤ (flat (wordsOf out)).length := by
        unfold wordsOf
        have e : flat (out.map fun x => (Go.Lib.decDigits x.f0.toNat, x.f1)) = flat ((out.take j).map fun x => (Go.Lib.decDigits x.f0.toNat, x.f1)) ++ flat ((out.drop j).map fun x => (Go.Lib.decDigits x.f0.toNat, x.f1)) := by
          unfold flat
          rw [← List.flatMap_append, ← List.map_append, List.take_append_drop]
        rw [e, List.length_append]; omega
      rw [hr]
      rw [text_flat] at h5
      omega
    obtain ⟨m, hmd⟩ : ∃ m, m = (Go.Lib.decDigits n).length := ⟨_, rfl⟩
    have hml : m < rest.data.toList.length := by rw [hr2, List.length_append, List.length_cons]; omega
    have hgm : rest.data.toList[m]? = some (sg (out[j]).f1) := by rw [hr2, hmd]; simp
    have hany : Go.Lib.indexAny rest.data.toList Hand.signsL = (m : Int) := by
      have h7 := noAny_clean (Go.Lib.decDigits n) (sg (out[j]).f1 :: flat (wordsOf (out.drop (j + 1)))) (digs_clean n)
      rw [← hr2, ← hmd] at h7
      refine Go.Lib.indexAny_hit h7 hgm ?_
      rcases sg_cases (out[j]).f1 with e | e <;> rw [e] <;> decide
    have ha := any_some rest (by rw [hsz]; exact Nat.le_trans hrl (by decide))
    rw [hany] at ha
    have hrs : rest.size ≤ 1000000 := by rw [hsz]; exact Nat.le_trans hrl (by decide)
    have hms : m < rest.size := by rw [hsz]; exact hml
    obtain ⟨f1, f2, f3, f4, f5, f6, f7⟩ := walk_facts m rest.size hms hrs
    have hex : (rest.extract 0 m).data.toList = Go.Lib.decDigits n := by rw [Go.Lib.extract_from_zero, hr2, hmd, List.take_left]
    have hat := atoi_some (rest.extract 0 m) (by rw [Go.Lib.size_eq, hex, ← hmd]; exact Nat.le_of_lt (Nat.lt_of_lt_of_le hms hrs))
    have hn1000 : n ≤ 1000 := by have := hmj.2; rw [hn] at this; exact Int.ofNat_le.1 this
    rw [hex, atoi_pair_digs n (Nat.lt_of_le_of_lt hn1000 (by decide))] at hat
    have hbt : ((bt rest (m : Int)) == 33) = (out[j]).f1 := by
      rw [bt_data rest m hml]
      have e : rest.data.toList[m] = sg (out[j]).f1 := by rw [List.getElem?_eq_getElem hml] at hgm; exact Option.some.inj hgm
      rw [e]
      cases (out[j]).f1 <;> decide
    have hne : rest.data.toList ≠ [] := fun e => by rw [e] at hml; simp at hml
    have hr3 : (rest.extract (m + 1) rest.size).data.toList = flat (wordsOf (out.drop (j + 1))) := by
      rw [Go.Lib.extract_to_end, hr2, hmd, ← List.drop_drop, List.drop_left]
      rfl
    have h1 := ih (j + 1) (rest.extract (m + 1) rest.size) (by omega) hr3
    rw [List.take_succ_eq_append_getElem hlt] at h1
    have htl : (out.take j).length ≤ 1000 := by rw [List.length_take]; omega
    have htl2 : ((out.take j).length : Int) ≤ 1000 := Int.ofNat_le.2 htl
    refine Ev.step (f := fun k => impl_ParseDrops.j1 k s (out.take j) rest true) (fun k => ?_) (Ev.step (f := fun k => impl_ParseDrops.l0 k s (out.take j ++ [out[j]]) (rest.extract (m + 1) rest.size)) (fun k => ?_) h1)
    · simp only [impl_ParseDrops.l0]
      rw [if_neg (by rw [Go.Lib.toList_data]; exact hne), decide_eq_true htl2]
    · simp only [impl_ParseDrops.j1]
      rw [if_pos trivial, ha, Option.bind_some, if_neg f1, if_pos f2, if_pos f3, Int.toNat_natCast, hat, Option.bind_some, if_pos (show (((n : Int), (none : Option Int)).2.isNone = true) from rfl), if_pos f4, if_pos (len_lt _ (Nat.le_succ_of_le htl)), f7, if_pos f5, if_pos f6, Int.toNat_natCast, hbt]
      show impl_ParseDrops.l0 k s (out.take j ++ [(⟨(n : Int), (out[j]).f1⟩ : S73)]) _ = _
      rw [← hn]
theorem drops_both (s : ByteArray) (hs : s.size ≤ 1000000) : ∃ r : List S73 × Bool, r.1.length ≤ 1001 ∧ Ev (fun k => spec_ParseDrops.f k s) r ∧ Ev (fun k => impl_ParseDrops.f k s) r := by
  have hsz := Go.Lib.size_eq s
  have hspec : ∀ r, s.size ≤ 5000 → (∀ ws' t, s.data.toList = flat ws' ++ t → (∀ x ∈ ws', clean x.1) → clean t → fin ws' t = r) → Ev (fun k => spec_ParseDrops.f k s) r := by
    intro r h5 hr
    obtain ⟨ws', t, e1, e2, e3, e4⟩ := spec_loop s (by omega) s.data.toList.length 0 [] (⟨#[]⟩ : ByteArray) (by omega) rfl (fun x hx => by cases hx) (fun b hb => by cases hb) (Nat.zero_le _) (Nat.zero_le _)
    rw [hr ws' t e1 e2 e3] at e4
    unfold spec_ParseDrops.f spec_flParse.f
    have h5i : ¬ ((s.size : Int) > 5000) := by omega
    exact Ev.bind (a := r) (f := fun _ t => some (t.1, t.2)) (Ev.congr (fun k => if_neg h5i) e4) (Ev.now _)
  by_cases h : ∃ out : List S73, Hand.aDrop 1000 (out.map tup) = true ∧ Hand.dropsT (out.map tup) = s.data.toList
  · obtain ⟨out, hv, ht⟩ := h
    obtain ⟨hl, hm⟩ := valid_mem hv
    have h5 := text_len out hv
    rw [ht, ← hsz] at h5
    refine ⟨(out, true), Nat.le_succ_of_le hl, hspec _ h5 (fun ws' t e1 e2 e3 => ?_), ?_⟩
    · rw [← ht, text_flat, ← List.append_nil (flat (wordsOf out))] at e1
      obtain ⟨h1, h2⟩ := flat_uniq _ _ _ _ (words_clean out) e2 (fun b hb => by cases hb) e3 e1
      subst h1
      subst h2
      unfold fin
      rw [words_back out hm, if_pos ⟨rfl, hv⟩]
    · have := impl_yes s out hv ht out.length 0 s (by omega) (by rw [List.drop_zero, ← ht, text_flat])
      exact this
  · have hno : ∀ out : List S73, ¬ (Hand.aDrop 1000 (out.map tup) = true ∧ Hand.dropsT (out.map tup) = s.data.toList) := fun out ho => h ⟨out, ho⟩
    refine ⟨([], false), by simp, ?_, impl_no s hno s.size s [] (Nat.le_refl _) hs (by simp)⟩
    by_cases h5 : s.size ≤ 5000
    · refine hspec _ h5 (fun ws' t e1 e2 e3 => ?_)
      unfold fin
      rw [if_neg]
      rintro ⟨rfl, hv⟩
      refine hno _ ⟨hv, ?_⟩
      obtain ⟨_, hm⟩ := valid_mem hv
      rw [text_flat, e1, List.append_nil]
      congr 1
      unfold wordsOf
      rw [List.map_map]
      refine (List.map_congr_left fun x hx => ?_).trans (List.map_id ws')
      have h6 := hm (mkS x) (List.mem_map.2 ⟨x, hx, rfl⟩)
      have h7 : 1 ≤ Hand.readNum x.1 := h6.1
      have h8 := (Hand.wordNum_nat _ _ (Hand.readNum_of (l := x.1) rfl (by omega)).1 (by omega)).1
      show (Go.Lib.decDigits (Hand.readNum x.1).toNat, x.2) = x
      rw [← h8]
    · unfold spec_ParseDrops.f spec_flParse.f
      exact Ev.congr (f := fun _ => some (([] : List S73), false)) (fun k => by rw [if_pos (by omega), Option.bind_some]) (Ev.now _)
theorem FnExactParseDrops : ∀ (a0 : ByteArray), ∃ k, laws_FnExactParseDrops.f k a0 = some true := by
  intro a0
  apply Ev.rounds
  unfold laws_FnExactParseDrops.f
  by_cases h : (a0.size : Int) > 1000000
  · exact Ev.congr (fun k => if_pos h) (Ev.now _)
  · refine Ev.congr (fun k => if_neg h) ?_
    obtain ⟨r, hrl, hs, hi⟩ := drops_both a0 (by omega)
    obtain ⟨mr, hmk, hh⟩ := mark_heldD r.1 (by omega)
    have heq := eqDropS_self r.1 (by omega)
    refine Ev.bind hs ?_
    refine Ev.bind hi ?_
    refine Ev.bind heq ?_
    refine Ev.congr (fun k => if_pos rfl) ?_
    refine Ev.congr (fun k => if_neg (by simp)) ?_
    refine Ev.bind hmk ?_
    refine Ev.bind hh ?_
    refine Ev.congr (fun k => if_neg (by omega)) ?_
    refine Ev.congr (fun k => if_pos rfl) ?_
    refine Ev.bind hi ?_
    refine Ev.bind heq ?_
    refine Ev.congr (fun k => if_pos rfl) ?_
    refine Ev.congr (fun k => if_neg (by simp)) ?_
    refine Ev.bind hh ?_
    refine Ev.congr (fun k => if_neg (by omega)) ?_
    refine Ev.congr (fun k => if_pos rfl) ?_
    exact Ev.now _

end Go.Proofs.YtbgmhdlmhncdcaaDoor.Pure
