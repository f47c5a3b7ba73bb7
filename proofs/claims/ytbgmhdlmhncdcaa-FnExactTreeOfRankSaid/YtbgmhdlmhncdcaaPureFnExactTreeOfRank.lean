/- The program's TreeOfRank answers as the reference's does, in memory of its own, for every two numbers; no conditions. -/
import Derived.Test.YtbgmhdlmhncdcaaQFnExactTreeOfRankx4
namespace Go.Proofs.Ytbgmhdlmhncdcaa.Pure
open Go.RowKit Go.Proofs.Ytbgmhdlmhncdcaa.QFnExactTreeOfRank Go.Proofs.YtbgmhdlmhncdcaaW.PrintWords Go.Proofs.YtbgmhdlmhncdcaaW.PrintLast
set_option linter.unusedVariables false

theorem wrap64_small {x : Int} (h0 : -9223372036854775808 ≤ x) (h1 : x < 9223372036854775808) : wrap64 x = x := by
  unfold wrap64; omega
theorem l1In_some (a b c : Int) : spec_l1In.f a b c = some (decide (b ≤ a ∧ a ≤ c)) := by
  unfold spec_l1In.f
  by_cases h : a ≥ b
  · rw [if_pos h]; congr 1; rw [Bool.eq_iff_iff]; simp; omega
  · rw [if_neg h]; congr 1; symm; rw [decide_eq_false_iff_not]; omega
theorem l1In_yes {a b c : Int} (h : b ≤ a ∧ a ≤ c) : spec_l1In.f a b c = some true := by rw [l1In_some, decide_eq_true h]
theorem l1In_no {a b c : Int} (h : ¬ (b ≤ a ∧ a ≤ c)) : spec_l1In.f a b c = some false := by rw [l1In_some, decide_eq_false h]
theorem if_ff {α : Type} (x y : α) : (if false = true then x else y) = y := if_neg (by decide)

theorem within_some (a b c : Int) : impl_within.f a b c = some (decide (b ≤ a ∧ a ≤ c)) := by
  unfold impl_within.f
  by_cases h : a ≥ b
  · rw [if_pos h]; congr 1; rw [Bool.eq_iff_iff]; simp; omega
  · rw [if_neg h]; congr 1; symm; rw [decide_eq_false_iff_not]; omega
theorem within_yes {a b c : Int} (h : b ≤ a ∧ a ≤ c) : impl_within.f a b c = some true := by rw [within_some, decide_eq_true h]
theorem within_no {a b c : Int} (h : ¬ (b ≤ a ∧ a ≤ c)) : impl_within.f a b c = some false := by rw [within_some, decide_eq_false h]

theorem rd_nat (l : List Int) (i : Nat) (h : i < l.length) : rd l (i : Int) = l[i] := by unfold rd; simp [h]

theorem rd_set (l : List Int) (i : Nat) (v : Int) (j : Int) (hj : 0 ≤ j) (hi : i < l.length) : rd (l.set i v) j = if j = (i : Int) then v else rd l j := by
  unfold rd
  by_cases h : j = (i : Int)
  · subst h
    simp [hi]
  · rw [if_neg h]
    have : i ≠ j.toNat := by omega
    simp [List.getD_eq_getElem?_getD, this]

theorem trMoved_go (l : List Int) (m : Int) (hl : l.length < 1000000000000) (d : Nat) : ∀ (i : Nat) (x : List Int), i + d = l.length → x.length = i → Ev (fun k => spec_trMoved.l0 k m x l (l.length : Int) (i : Int)) (x ++ Hand.moved (l.drop i) m) := by
  induction d with
  | zero =>
    intro i x hi hx
    refine Ev.step (f := fun _ => some x) (fun k => ?_) ?_
    · simp only [spec_trMoved.l0]; rw [if_neg (by omega)]
    · rw [List.drop_eq_nil_of_le (by omega)]; unfold Hand.moved; rw [List.map_nil, List.append_nil]; exact Ev.now _
  | succ d ih =>
    intro i x hi hx
    have hlt : i < l.length := by omega
    have HW := Aside0.mk (show wrap64 ((i : Int) + 1) = ((i + 1 : Nat) : Int) from wrap64_small (by omega) (by omega))
    have h := ih (i + 1) (x ++ [wrap64 (l[i] + m)]) (by omega) (by rw [List.length_append, List.length_singleton, hx])
    have e : x ++ Hand.moved (l.drop i) m = x ++ [wrap64 (l[i] + m)] ++ Hand.moved (l.drop (i + 1)) m := by
      rw [List.drop_eq_getElem_cons hlt]; unfold Hand.moved; rw [List.map_cons, List.append_assoc, List.singleton_append]
    rw [e]
    refine Ev.step (fun k => ?_) h
    simp only [spec_trMoved.l0]
    rw [if_pos (by omega), if_pos (by omega), if_pos (by omega), if_pos (by omega), rd_nat l i hlt, HW.out]
theorem trMoved_ev (l : List Int) (m : Int) (hl : l.length < 1000000000000) : Ev (fun k => spec_trMoved.f k l m) (Hand.moved l m) := by
  have h := trMoved_go l m hl l.length 0 [] (by omega) rfl
  rw [List.drop_zero, List.nil_append] at h
  exact Ev.congr (fun k => rfl) h
theorem trJoin_ev (a b : List Int) (h : a.length + b.length ≤ 1000000) : Ev (fun k => spec_trJoin.f k a b) (joinT a b) := by
  have hw : wrap64 ((a.length : Int) + 1) = (a.length : Int) + 1 := wrap64_small (by omega) (by omega)
  have hm := trMoved_ev b ((a.length : Int) + 1) (by omega)
  have hml : (Hand.moved b ((a.length : Int) + 1)).length = b.length := by unfold Hand.moved; rw [List.length_map]
  refine Ev.congr (f := fun k => (spec_trMoved.f k b ((a.length : Int) + 1)).bind fun t => (if ([(a.length : Int) + 1] ++ a).length + t.length < 17592186044416 then (some ([(a.length : Int) + 1] ++ a ++ t)) else (none))) (fun k => ?_) (Ev.bind hm ?_)
  · unfold spec_trJoin.f
    rw [hw, Option.bind_some, if_pos (by rw [List.length_singleton]; omega), Option.bind_some]
  · refine Ev.congr (fun k => if_pos (by rw [hml, List.length_append, List.length_singleton]; omega)) ?_
    exact Ev.congr (f := fun _ => some (joinT a b)) (fun k => by unfold joinT; rw [List.append_assoc]; rfl) (Ev.now _)
theorem joined_ev (a b : List Int) (h : a.length + b.length ≤ 1000000) : Ev (fun k => impl_joined.f k a b) (joinT a b) := Ev.congr (f := fun _ => some (joinT a b)) (fun k => by unfold impl_joined.f; rw [if_pos h]) (Ev.now _)

theorem eqIntS_l0 (l : List Int) (hl : l.length < 1000000000000) (d : Nat) : ∀ (i : Int), 0 ≤ i → i ≤ l.length → (l.length : Int) - i = d → Ev (fun k => laws_eqIntS.l0 k l l i) true := by
  induction d with
  | zero =>
    intro i h0 h1 hd
    exact Ev.step (f := fun _ => some true) (fun k => by simp only [laws_eqIntS.l0]; rw [if_neg (by omega)]) (Ev.now _)
  | succ d ih =>
    intro i h0 h1 hd
    have hlt : i < (l.length : Int) := by omega
    have hw : wrap64 (i + 1) = i + 1 := wrap64_small (by omega) (by omega)
    exact Ev.step (f := fun k => laws_eqIntS.l0 k l l (i + 1)) (fun k => by simp only [laws_eqIntS.l0]; rw [if_pos hlt, if_pos h0, if_pos hlt, if_pos trivial, hw]) (ih (i + 1) (by omega) (by omega) (by omega))

theorem eqIntS_self (l : List Int) (hl : l.length < 1000000000000) : Ev (fun k => laws_eqIntS.f k l l) true :=
  Ev.congr (f := fun k => laws_eqIntS.l0 k l l 0) (fun k => by unfold laws_eqIntS.f; rw [if_pos rfl]) (eqIntS_l0 l hl l.length 0 (by omega) (by omega) (by omega))

theorem markIntS_l0 (n : Nat) (hn : n < 1000000000000) (a : Int) (ha0 : 0 ≤ a) (ha1 : a < 1000000000000) (d : Nat) : ∀ (x : List Int) (i : Int), x.length = n → 0 ≤ i → i ≤ n → (n : Int) - i = d → (∀ j : Int, 0 ≤ j → j < i → rd x j = a + j) →
    ∃ r, Ev (fun k => laws_markIntS.l0 k x (a + i) i) (a + n, r) ∧ r.length = n ∧ ∀ j : Int, 0 ≤ j → j < n → rd r j = a + j := by
  induction d with
  | zero =>
    intro x i hx h0 h1 hd hj
    have hi : i = n := by omega
    subst hi
    exact ⟨x, Ev.step (f := fun _ => some (a + n, x)) (fun k => by simp only [laws_markIntS.l0]; rw [if_neg (by omega)]) (Ev.now _), hx, hj⟩
  | succ d ih =>
    intro x i hx h0 h1 hd hj
    have hlt : i < (x.length : Int) := by omega
    have hw : wrap64 (i + 1) = i + 1 := wrap64_small (by omega) (by omega)
    have hw2 : wrap64 (a + i + 1) = a + (i + 1) := by rw [wrap64_small (by omega) (by omega)]; omega
    obtain ⟨r, hr, hl, hv⟩ := ih (x.set i.toNat (a + i)) (i + 1) (by simp [hx]) (by omega) (by omega) (by omega) (fun j h0j hji => by
      rw [rd_set _ _ _ _ h0j (by omega)]
      by_cases e : j = (i.toNat : Int)
      · rw [if_pos e]; omega
      · rw [if_neg e]; exact hj j h0j (by omega))
    exact ⟨r, Ev.step (f := fun k => laws_markIntS.l0 k (x.set i.toNat (a + i)) (a + (i + 1)) (i + 1)) (fun k => by simp only [laws_markIntS.l0]; rw [if_pos hlt, if_pos h0, hw, hw2]) hr, hl, hv⟩

theorem heldIntS_l0 (r : List Int) (hn : r.length < 1000000000000) (a : Int) (ha0 : 0 ≤ a) (ha1 : a < 1000000000000) (hv : ∀ j : Int, 0 ≤ j → j < r.length → rd r j = a + j) (d : Nat) : ∀ (i : Int), 0 ≤ i → i ≤ r.length → (r.length : Int) - i = d →
    Ev (fun k => laws_heldIntS.l0 k r (a + i) i) (a + r.length) := by
  induction d with
  | zero =>
    intro i h0 h1 hd
    have hi : i = r.length := by omega
    subst hi
    exact Ev.step (f := fun _ => some (a + r.length)) (fun k => by simp only [laws_heldIntS.l0]; rw [if_neg (by omega)]) (Ev.now _)
  | succ d ih =>
    intro i h0 h1 hd
    have hlt : i < (r.length : Int) := by omega
    have hw : wrap64 (i + 1) = i + 1 := wrap64_small (by omega) (by omega)
    have hw2 : wrap64 (a + i + 1) = a + (i + 1) := by rw [wrap64_small (by omega) (by omega)]; omega
    exact Ev.step (f := fun k => laws_heldIntS.l0 k r (a + (i + 1)) (i + 1)) (fun k => by simp only [laws_heldIntS.l0]; rw [if_pos hlt, if_pos h0, if_pos (hv i h0 hlt), hw, hw2]) (ih (i + 1) (by omega) (by omega) (by omega))

theorem mark_held (l : List Int) (hl : l.length < 1000000000) : ∃ r, Ev (fun k => laws_markIntS.f k l 101) (101 + (l.length : Int), r) ∧ Ev (fun k => laws_heldIntS.f k r 101) (101 + (l.length : Int)) ∧ r.length = l.length := by
  obtain ⟨r, h1, h2, h3⟩ := markIntS_l0 l.length (by omega) 101 (by omega) (by omega) l.length l 0 rfl (by omega) (by omega) (by omega) (fun j _ _ => by omega)
  refine ⟨r, h1, ?_, h2⟩
  have := heldIntS_l0 r (by omega) 101 (by omega) (by omega) (fun j h0 h1 => h3 j h0 (by omega)) r.length 0 (by omega) (by omega) (by omega)
  rw [h2] at this
  exact this

theorem law_of (a0 a1 : Int) (l : List Int) (b : Bool) (hl : l.length < 1000000) (hs : Ev (fun k => spec_TreeOfRank.f k a0 a1) (l, b)) (hi : Ev (fun k => impl_TreeOfRank.f k a0 a1) (l, b)) : ∃ k, laws_FnExactTreeOfRank.f k a0 a1 = some true := by
  obtain ⟨r, hm, hh, hrl⟩ := mark_held l (by omega)
  have heq := eqIntS_self l (by omega)
  apply Ev.rounds
  unfold laws_FnExactTreeOfRank.f
  refine Ev.bind hs ?_
  refine Ev.bind hi ?_
  refine Ev.bind heq ?_
  refine Ev.congr (fun k => if_pos rfl) ?_
  refine Ev.congr (fun k => if_neg (by simp)) ?_
  refine Ev.bind hm ?_
  refine Ev.bind hh ?_
  refine Ev.congr (fun k => if_neg (by omega)) ?_
  refine Ev.congr (fun k => if_pos rfl) ?_
  refine Ev.bind hi ?_
  refine Ev.bind heq ?_
  refine Ev.congr (fun k => if_pos rfl) ?_
  refine Ev.congr (fun k => if_neg (by simp)) ?_
  refine Ev.bind hh ?_
  refine Ev.congr (fun k => if_neg (by omega)) ?_
  refine Ev.congr (fun k => if_pos rfl) ?_
  exact Ev.now _

/-- How many trees of so many floors there are. -/
def C (n : Nat) : Int := ([1, 1, 2, 5, 14, 42, 132, 429, 1430, 4862, 16796, 58786, 208012, 742900, 2674440, 9694845, 35357670, 129644790, 477638700, 1767263190, 6564120420] : List Int).getD n 0
/-- How many of them have their first floor behind so many. -/
def S (n : Nat) : Nat → Nat → Int
  | 0, _ => 0
  | k + 1, b => C b * C (n - 1 - b) + S n k (b + 1)
theorem C_all : ∀ n : Fin 21, 1 ≤ C n.val ∧ C n.val ≤ 6564120420 := by decide +kernel
theorem S_all : ∀ n : Fin 21, 1 ≤ n.val → S n.val n.val 0 = C n.val := by decide +kernel
theorem CC_all : ∀ b : Fin 20, ∀ a : Fin 20, a.val + b.val ≤ 19 → C b.val * C a.val ≤ 6564120420 := by decide +kernel
theorem catalan_all : ∀ n : Fin 21, impl_catalan.f 30 (n.val : Int) = some (C n.val) := by decide +kernel
theorem trAll_all : ∀ n : Fin 21, spec_trAll.f 400 (n.val : Int) = some ((List.range (n.val + 1)).map C) := by decide +kernel
theorem C_bd (n : Nat) (h : n ≤ 20) : 1 ≤ C n ∧ C n ≤ 6564120420 := C_all ⟨n, by omega⟩
theorem CC_bd (b a : Nat) (h : a + b ≤ 19) : 0 ≤ C b * C a ∧ C b * C a ≤ 6564120420 := ⟨Int.mul_nonneg (by have := C_bd b (by omega); omega) (by have := C_bd a (by omega); omega), CC_all ⟨b, by omega⟩ ⟨a, by omega⟩ h⟩
theorem catalan_ev (n : Nat) (h : n ≤ 20) : Ev (fun k => impl_catalan.f k (n : Int)) (C n) := Ev.of (fun k => impl_catalan.mono _ k) (catalan_all ⟨n, by omega⟩)
theorem trAll_ev (n : Nat) (h : n ≤ 20) : Ev (fun k => spec_trAll.f k (n : Int)) ((List.range (n + 1)).map C) := Ev.of (fun k => spec_trAll.mono _ k) (trAll_all ⟨n, by omega⟩)
theorem all_rd (M b : Nat) (h : b ≤ M) : rd ((List.range (M + 1)).map C) (b : Int) = C b := by
  rw [rd_nat _ _ (by simp; omega)]; simp
theorem rank_loop (M : Nat) (hM : M ≤ 20) (n : Nat) (hn : n ≤ M) (ih : ∀ m, m < n → ∀ rank : Int, (1 ≤ m → 0 ≤ rank ∧ rank < C m) → ∃ r : List Int, r.length = m ∧ Ev (fun k => impl_ofRank.f k (m : Int) rank) r ∧ Ev (fun k => spec_trOfRank.f k (m : Int) rank ((List.range (M + 1)).map C)) r) (c : Nat) :
    ∀ (b : Nat) (rank : Int), c + b = n → 0 ≤ rank → rank < S n c b → ∃ r : List Int, r.length = n ∧ Ev (fun k => impl_ofRank.l0 k (n : Int) rank ((b + 1 : Nat) : Int)) r ∧ Ev (fun k => spec_trOfRank.l0 k (n : Int) rank ((List.range (M + 1)).map C) (b : Int)) r := by
  induction c with
  | zero =>
    intro b rank hb h0 h1
    simp only [S] at h1
    omega
  | succ c ihc =>
    intro b rank hb h0 h1
    simp only [S] at h1
    obtain ⟨a, ha⟩ : ∃ a : Nat, n = a + b + 1 := ⟨n - 1 - b, by omega⟩
    have hcc := CC_bd b a (by omega)
    rw [show n - 1 - b = a by omega] at h1
    have hcb := C_bd b (by omega)
    have hca := C_bd a (by omega)
    have HW := Aside0.mk (show wrap64 (((b + 1 : Nat) : Int) - 1) = (b : Int) ∧ wrap64 ((n : Int) - ((b + 1 : Nat) : Int)) = (a : Int) ∧ wrap64 (((b + 1 : Nat) : Int) + 1) = ((b + 1 + 1 : Nat) : Int) ∧ wrap64 ((n : Int) - 1) = ((a + b : Nat) : Int) ∧ wrap64 (((a + b : Nat) : Int) - (b : Int)) = (a : Int) ∧ wrap64 ((b : Int) + 1) = ((b + 1 : Nat) : Int) from
      ⟨(wrap64_small (by omega) (by omega)).trans (by omega), (wrap64_small (by omega) (by omega)).trans (by omega), (wrap64_small (by omega) (by omega)).trans (by omega), (wrap64_small (by omega) (by omega)).trans (by omega), (wrap64_small (by omega) (by omega)).trans (by omega), (wrap64_small (by omega) (by omega)).trans (by omega)⟩)
    have HC := Aside0.mk (show wrap64 (C b * C a) = C b * C a from wrap64_small (by omega) (by omega))
    have eb := catalan_ev b (by omega)
    have ea := catalan_ev a (by omega)
    have impl_step : ∀ k, impl_ofRank.l0 (k + 1) (n : Int) rank ((b + 1 : Nat) : Int) = (impl_catalan.f k (b : Int)).bind fun x => ((impl_catalan.f k (a : Int)).bind fun y => (if rank ≥ (wrap64 (x * y)) then ((impl_catalan.f k (b : Int)).bind fun z => ((impl_catalan.f k (a : Int)).bind fun u => (impl_ofRank.l0 k (n : Int) (wrap64 (rank - (wrap64 (z * u)))) ((b + 1 + 1 : Nat) : Int)))) else ((impl_catalan.f k (a : Int)).bind fun v => (if v = 0 then (none) else ((impl_ofRank.f k (b : Int) (wrap64 (Int.tdiv rank v))).bind fun s => ((impl_ofRank.f k (a : Int) (Int.tmod rank v)).bind fun t => ((impl_joined.f k s t).bind fun q => (some q)))))))) := fun k => by
      simp only [impl_ofRank.l0]
      rw [HW.out.1, HW.out.2.1, HW.out.2.2.1]
    have spec_step : ∀ k, spec_trOfRank.l0 (k + 1) (n : Int) rank ((List.range (M + 1)).map C) (b : Int) = (if rank < C b * C a then ((spec_trOfRank.f k (b : Int) (wrap64 (Int.tdiv rank (C a))) ((List.range (M + 1)).map C)).bind fun s => ((spec_trOfRank.f k (a : Int) (Int.tmod rank (C a)) ((List.range (M + 1)).map C)).bind fun t => ((spec_trJoin.f k s t).bind fun q => (some q)))) else (spec_trOfRank.l0 k (n : Int) (wrap64 (rank - C b * C a)) ((List.range (M + 1)).map C) ((b + 1 : Nat) : Int))) := fun k => by
      have hlen : ((List.range (M + 1)).map C).length = M + 1 := by simp
      simp only [spec_trOfRank.l0]
      rw [HW.out.2.2.2.1, HW.out.2.2.2.2.1, HW.out.2.2.2.2.2, if_pos (by omega), if_pos (by omega), if_pos (by rw [hlen]; omega), if_pos (by omega), if_pos (by rw [hlen]; omega), all_rd M b (by omega), all_rd M a (by omega), HC.out]
      by_cases hc : rank < C b * C a
      · rw [if_pos hc, if_pos hc, if_neg (by omega)]
      · rw [if_neg hc, if_neg hc]
    by_cases hc : rank < C b * C a
    · have hdiv : 0 ≤ rank / C a ∧ rank / C a < C b := ⟨Int.ediv_nonneg h0 (by omega), Int.ediv_lt_of_lt_mul (by omega) hc⟩
      have hmod : 0 ≤ rank % C a ∧ rank % C a < C a := ⟨Int.emod_nonneg _ (by omega), Int.emod_lt_of_pos _ (by omega)⟩
      have hd : wrap64 (Int.tdiv rank (C a)) = rank / C a := by rw [Int.tdiv_eq_ediv_of_nonneg h0]; exact wrap64_small (by omega) (by omega)
      have hm : Int.tmod rank (C a) = rank % C a := Int.tmod_eq_emod_of_nonneg h0
      obtain ⟨s, s0, s1, s2⟩ := ih b (by omega) (rank / C a) (fun _ => hdiv)
      obtain ⟨t, t0, t1, t2⟩ := ih a (by omega) (rank % C a) (fun _ => hmod)
      refine ⟨joinT s t, by rw [joinT_len]; omega, ?_, ?_⟩
      · refine Ev.step impl_step (Ev.bind eb (Ev.bind ea (Ev.congr (fun k => if_neg (by rw [HC.out]; omega)) (Ev.bind ea (Ev.congr (fun k => if_neg (by omega)) ?_)))))
        rw [hd, hm]
        exact Ev.bind s1 (Ev.bind t1 (Ev.bind (joined_ev s t (by omega)) (Ev.now _)))
      · refine Ev.step spec_step (Ev.congr (fun k => if_pos hc) ?_)
        rw [hd, hm]
        exact Ev.bind s2 (Ev.bind t2 (Ev.bind (trJoin_ev s t (by omega)) (Ev.now _)))
    · have hsub : wrap64 (rank - C b * C a) = rank - C b * C a := by
        exact wrap64_small (by omega) (by
          have : ∀ (c b : Nat), c + b = n → S n c b ≤ 6564120420 * c := by
            intro c
            induction c with
            | zero => intro b _; simp [S]
            | succ c ih2 =>
              intro b hb2
              have h5 := ih2 (b + 1) (by omega)
              have h6 := CC_bd b (n - 1 - b) (by omega)
              simp only [S]; omega
          have h7 := this c (b + 1) (by omega)
          omega)
      obtain ⟨r, r0, r1, r2⟩ := ihc (b + 1) (rank - C b * C a) (by omega) (by omega) (by omega)
      refine ⟨r, r0, ?_, ?_⟩
      · refine Ev.step impl_step (Ev.bind eb (Ev.bind ea (Ev.congr (fun k => if_pos (by rw [HC.out]; omega)) (Ev.bind eb (Ev.bind ea ?_)))))
        rw [HC.out, hsub]
        exact r1
      · refine Ev.step spec_step (Ev.congr (fun k => if_neg hc) ?_)
        rw [hsub]
        exact r2
theorem rank_both (M : Nat) (hM : M ≤ 20) (N : Nat) : ∀ n, n ≤ N → n ≤ M → ∀ rank : Int, (1 ≤ n → 0 ≤ rank ∧ rank < C n) → ∃ r : List Int, r.length = n ∧ Ev (fun k => impl_ofRank.f k (n : Int) rank) r ∧ Ev (fun k => spec_trOfRank.f k (n : Int) rank ((List.range (M + 1)).map C)) r := by
  induction N with
  | zero =>
    intro n h _ rank _
    obtain rfl : n = 0 := by omega
    exact ⟨[], rfl, Ev.step (f := fun _ => some []) (fun k => by simp only [impl_ofRank.f]; rw [if_pos (by rfl)]) (Ev.now _), Ev.step (f := fun _ => some []) (fun k => by simp only [spec_trOfRank.f]; rw [if_pos (by rfl)]) (Ev.now _)⟩
  | succ N ih =>
    intro n h hnM rank hr
    by_cases h0 : n = 0
    · exact ih n (by omega) hnM rank hr
    · obtain ⟨r1, r2⟩ := hr (by omega)
      obtain ⟨r, e0, e1, e2⟩ := rank_loop M hM n hnM (fun m hm rk hrk => ih m (by omega) (by omega) rk hrk) n 0 rank (by omega) r1 (by rw [S_all ⟨n, by omega⟩ (by show 1 ≤ n; omega)]; exact r2)
      refine ⟨r, e0, Ev.step (fun k => ?_) e1, Ev.step (fun k => ?_) e2⟩
      · simp only [impl_ofRank.f]; rw [if_neg (by omega)]; rfl
      · simp only [spec_trOfRank.f]; rw [if_neg (by omega)]; rfl
theorem law_both (a r : Int) : ∃ p : List Int × Bool, p.1.length < 1000000 ∧ Ev (fun k => spec_TreeOfRank.f k a r) p ∧ Ev (fun k => impl_TreeOfRank.f k a r) p := by
  by_cases h1 : 0 ≤ a ∧ a ≤ 20
  · obtain ⟨n, rfl⟩ : ∃ n : Nat, a = n := ⟨a.toNat, by omega⟩
    have hcb := C_bd n (by omega)
    have hw : wrap64 (C n - 1) = C n - 1 := wrap64_small (by omega) (by omega)
    by_cases h2 : 0 ≤ r ∧ r ≤ C n - 1
    · obtain ⟨q, q0, q1, q2⟩ := rank_both n (by omega) n n (Nat.le_refl _) (Nat.le_refl _) r (fun _ => by omega)
      refine ⟨(q, true), by show q.length < 1000000; omega, ?_, ?_⟩
      · refine Ev.congr (f := fun k => (spec_trAll.f k (n : Int)).bind fun l => (if (0 : Int) ≤ (n : Int) then (if (n : Int) < (l.length : Int) then ((spec_l1In.f r 0 (wrap64 ((rd l (n : Int)) - 1))).bind fun t => (if t = true then ((spec_trOfRank.f k (n : Int) r l).bind fun u => (some (u, true))) else (some (([] : List Int), false)))) else (none)) else (none))) (fun k => ?_) (Ev.bind (trAll_ev n (by omega)) ?_)
        · unfold spec_TreeOfRank.f; rw [l1In_yes h1, Option.bind_some, if_pos rfl]
        · refine Ev.congr (fun k => if_pos (by omega)) (Ev.congr (fun k => if_pos (by simp; omega)) ?_)
          rw [all_rd n n (Nat.le_refl _), hw, l1In_yes h2]
          exact Ev.congr (fun k => Option.bind_some _ _) (Ev.congr (fun k => if_pos rfl) (Ev.bind q2 (Ev.now _)))
      · refine Ev.congr (f := fun k => (impl_catalan.f k (n : Int)).bind fun t => ((impl_within.f r 0 (wrap64 (t - 1))).bind fun u => (if u = true then ((impl_ofRank.f k (n : Int) r).bind fun v => (some (v, true))) else (some (([] : List Int), false))))) (fun k => ?_) (Ev.bind (catalan_ev n (by omega)) ?_)
        · unfold impl_TreeOfRank.f; rw [within_yes h1, Option.bind_some, if_pos rfl]
        · rw [hw, within_yes h2]
          exact Ev.congr (fun k => Option.bind_some _ _) (Ev.congr (fun k => if_pos rfl) (Ev.bind q1 (Ev.now _)))
    · refine ⟨([], false), by simp, ?_, ?_⟩
      · refine Ev.congr (f := fun k => (spec_trAll.f k (n : Int)).bind fun l => (if (0 : Int) ≤ (n : Int) then (if (n : Int) < (l.length : Int) then ((spec_l1In.f r 0 (wrap64 ((rd l (n : Int)) - 1))).bind fun t => (if t = true then ((spec_trOfRank.f k (n : Int) r l).bind fun u => (some (u, true))) else (some (([] : List Int), false)))) else (none)) else (none))) (fun k => ?_) (Ev.bind (trAll_ev n (by omega)) ?_)
        · unfold spec_TreeOfRank.f; rw [l1In_yes h1, Option.bind_some, if_pos rfl]
        · refine Ev.congr (fun k => if_pos (by omega)) (Ev.congr (fun k => if_pos (by simp; omega)) ?_)
          rw [all_rd n n (Nat.le_refl _), hw, l1In_no h2]
          exact Ev.congr (fun k => Option.bind_some _ _) (Ev.congr (fun k => if_ff _ _) (Ev.now _))
      · refine Ev.congr (f := fun k => (impl_catalan.f k (n : Int)).bind fun t => ((impl_within.f r 0 (wrap64 (t - 1))).bind fun u => (if u = true then ((impl_ofRank.f k (n : Int) r).bind fun v => (some (v, true))) else (some (([] : List Int), false))))) (fun k => ?_) (Ev.bind (catalan_ev n (by omega)) ?_)
        · unfold impl_TreeOfRank.f; rw [within_yes h1, Option.bind_some, if_pos rfl]
        · rw [hw, within_no h2]
          exact Ev.congr (fun k => Option.bind_some _ _) (Ev.congr (fun k => if_ff _ _) (Ev.now _))
  · refine ⟨([], false), by simp, Ev.congr (f := fun _ => some ([], false)) (fun k => ?_) (Ev.now _), Ev.congr (f := fun _ => some ([], false)) (fun k => ?_) (Ev.now _)⟩
    · unfold spec_TreeOfRank.f; rw [l1In_no h1, Option.bind_some, if_ff]
    · unfold impl_TreeOfRank.f; rw [within_no h1, Option.bind_some, if_ff]
theorem FnExactTreeOfRank : laws_FnExactTreeOfRank.Pure := by
  intro a0 a1 _ _
  obtain ⟨p, p0, p1, p2⟩ := law_both a0 a1
  exact law_of a0 a1 p.1 p.2 p0 p1 p2

end Go.Proofs.Ytbgmhdlmhncdcaa.Pure
