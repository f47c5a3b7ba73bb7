/- The program's FewestLeft answers as the reference's does, and leaves the row that it is given alone, for every two numbers and list; no conditions. -/
import Derived.Test.YtnbimnnocnhggaaQFnExactFewestLeftx4
namespace Go.Proofs.Ytnbimnnocnhggaa.Pure
open Go.RowKit Go.Proofs.Ytnbimnnocnhggaa.QFnExactFewestLeft Go.Proofs.YtnbimnnocnhggaaW.PrintWords Go.Proofs.YtnbimnnocnhggaaW.PrintLast Go.Proofs.YtnbimnnocnhggaaW.PrintMore
set_option linter.unusedVariables false

theorem wrap64_small {x : Int} (h0 : -9223372036854775808 ≤ x) (h1 : x < 9223372036854775808) : wrap64 x = x := by
  unfold wrap64; omega

theorem rd_set (l : List Int) (i : Nat) (v : Int) (j : Int) (hj : 0 ≤ j) (hi : i < l.length) : rd (l.set i v) j = if j = (i : Int) then v else rd l j := by
  unfold rd
  by_cases h : j = (i : Int)
  · subst h
    simp [hi]
  · rw [if_neg h]
    have : i ≠ j.toNat := by omega
    simp [List.getD_eq_getElem?_getD, this]

theorem l1In_some (a b c : Int) : spec_l1In.f a b c = some (decide (b ≤ a ∧ a ≤ c)) := by
  unfold spec_l1In.f
  by_cases h : a ≥ b
  · rw [if_pos h]; congr 1; rw [Bool.eq_iff_iff]; simp; omega
  · rw [if_neg h]; congr 1; symm; rw [decide_eq_false_iff_not]; omega

theorem l1Least_some (a b : Int) : spec_l1Least.f a b = some (min a b) := by
  unfold spec_l1Least.f
  split <;> (congr 1; omega)

/-- The row for t tests. -/
structure Row (e t : Nat) (x : List Int) : Prop where
  len : x.length = e + 1
  at_ : ∀ j : Int, 0 ≤ j → j ≤ e → rd x j = Hand.reach t j.toNat
/-- Cells above m hold the next row already. -/
structure Mixed (e t m : Nat) (x : List Int) : Prop where
  len : x.length = e + 1
  at_ : ∀ j : Int, 0 ≤ j → j ≤ e → rd x j = if j ≤ m then Hand.reach t j.toNat else Hand.reach (t + 1) j.toNat

theorem row_zero (e : Nat) : Row e 0 (List.replicate (e + 1) 0) := by
  refine ⟨by simp, fun j h0 h1 => ?_⟩
  rw [Hand.reach_zero]
  unfold rd
  simp only [List.getD_eq_getElem?_getD, List.getElem?_replicate]
  split <;> rfl

theorem mixed_start {e t : Nat} {x : List Int} (h : Row e t x) : Mixed e t e x := ⟨h.len, fun j h0 h1 => by rw [if_pos h1]; exact h.at_ j h0 h1⟩
theorem mixed_end {e t : Nat} {x : List Int} (h : Mixed e t 0 x) : Row e (t + 1) x := ⟨h.len, fun j h0 h1 => by
  rw [h.at_ j h0 h1]
  by_cases h2 : j ≤ ((0 : Nat) : Int)
  · obtain rfl : j = 0 := by omega
    rw [if_pos h2]
    show Hand.reach t 0 = Hand.reach (t + 1) 0
    rw [Hand.reach_none, Hand.reach_none]
  · rw [if_neg h2]⟩
theorem mixed_step {e t m : Nat} {x : List Int} (h : Mixed e t (m + 1) x) (hm : m + 1 ≤ e) :
    Mixed e t m (x.set (m + 1) (min (rd x (m : Int) + rd x ((m : Int) + 1) + 1) 1000000001)) := by
  refine ⟨by rw [List.length_set]; exact h.len, fun j h0 h1 => ?_⟩
  rw [rd_set _ _ _ _ h0 (by rw [h.len]; omega)]
  by_cases hj : j = ((m + 1 : Nat) : Int)
  · subst hj
    rw [if_pos rfl, if_neg (by omega), h.at_ (m : Int) (by omega) (by omega), h.at_ ((m : Int) + 1) (by omega) (by omega), if_pos (by omega), if_pos (by omega)]
    rw [show ((m + 1 : Nat) : Int).toNat = m + 1 by omega, show ((m : Int)).toNat = m by omega, show ((m : Int) + 1).toNat = m + 1 by omega]
    rw [Hand.reach]
    omega
  · rw [if_neg hj, h.at_ j h0 h1]
    by_cases h2 : j ≤ ((m + 1 : Nat) : Int)
    · rw [if_pos h2, if_pos (by omega)]
    · rw [if_neg h2, if_neg (by omega)]
theorem mixed_bd {e t m : Nat} {x : List Int} (h : Mixed e t m x) (j : Int) (h0 : 0 ≤ j) (h1 : j ≤ e) : 0 ≤ rd x j ∧ rd x j ≤ 1000000001 := by
  rw [h.at_ j h0 h1]
  split <;> exact Hand.reach_bd _ _

theorem l1In_yes {a b c : Int} (h : b ≤ a ∧ a ≤ c) : spec_l1In.f a b c = some true := by rw [l1In_some, decide_eq_true h]
theorem l1In_no {a b c : Int} (h : ¬ (b ≤ a ∧ a ≤ c)) : spec_l1In.f a b c = some false := by rw [l1In_some, decide_eq_false h]
theorem if_ff {α : Type} (x y : α) : (if false = true then x else y) = y := if_neg (by decide)

theorem flEggs_yes {a : Int} (h : 1 ≤ a ∧ a ≤ 10) : spec_flEggs.f a = some true := by unfold spec_flEggs.f; rw [l1In_yes h, Option.bind_some]
theorem flEggs_no {a : Int} (h : ¬ (1 ≤ a ∧ a ≤ 10)) : spec_flEggs.f a = some false := by unfold spec_flEggs.f; rw [l1In_no h, Option.bind_some]

theorem inner_few (e : Nat) (he : e ≤ 10) (a1 x6 : Int) (h6 : 0 ≤ x6) (h6' : x6 < 1000000000) (t m : Nat) : ∀ (x : List Int), Mixed e t m x → m ≤ e →
    ∃ x', Row e (t + 1) x' ∧ ∀ r, Ev (fun k => spec_flFew.l0 k e a1 x' (x6 + 1)) r → Ev (fun k => spec_flFew.l1 k e a1 x x6 m) r := by
  induction m with
  | zero =>
    intro x hx _
    exact ⟨x, mixed_end hx, fun r hr => Ev.step (f := fun k => spec_flFew.l0 k e a1 x (x6 + 1)) (fun k => by simp only [spec_flFew.l1]; rw [if_neg (by omega), wrap64_small (by omega) (by omega)]) hr⟩
  | succ m ih =>
    intro x hx hm
    obtain ⟨x', h1, h2⟩ := ih _ (mixed_step hx hm) (by omega)
    refine ⟨x', h1, fun r hr => Ev.step (f := fun k => spec_flFew.l1 k e a1 (x.set (m + 1) (min (rd x (m : Int) + rd x ((m : Int) + 1) + 1) 1000000001)) x6 m) (fun k => ?_) (h2 r hr)⟩
    have b1 := mixed_bd hx (m : Int) (by omega) (by omega)
    have b2 := mixed_bd hx ((m : Int) + 1) (by omega) (by omega)
    have hl := hx.len
    have e1 : wrap64 (((m + 1 : Nat) : Int) - 1) = m := by rw [wrap64_small (by omega) (by omega)]; omega
    have e2 : ((m + 1 : Nat) : Int) = (m : Int) + 1 := by omega
    simp only [spec_flFew.l1]
    rw [if_pos (by omega), e1, if_pos (by omega), if_pos (by omega), if_pos (by omega), if_pos (by omega), e2, wrap64_small (x := rd x (m : Int) + rd x ((m : Int) + 1)) (by omega) (by omega), wrap64_small (by omega) (by omega), l1Least_some, Option.bind_some,
      show ((m : Int) + 1).toNat = m + 1 by omega]

theorem few_l0 (e : Nat) (he : e ≤ 10) (n : Int) (T : Nat) (hT : T ≤ 1000) (hF : Hand.IsFew e n T) (d : Nat) : ∀ (t : Nat) (x : List Int), Row e t x → t + d = T → Ev (fun k => spec_flFew.l0 k e n x t) T := by
  induction d with
  | zero =>
    intro t x hx ht
    obtain rfl : t = T := by omega
    have hl := hx.len
    have := hF.1
    refine Ev.step (f := fun _ => some (t : Int)) (fun k => ?_) (Ev.now _)
    simp only [spec_flFew.l0]
    rw [if_pos (by omega), if_pos (by omega), hx.at_ e (by omega) (by omega), Int.toNat_natCast, if_neg (by omega)]
  | succ d ih =>
    intro t x hx ht
    have hl := hx.len
    have := hF.2 t (by omega)
    obtain ⟨x', h1, h2⟩ := inner_few e he n t (by omega) (by omega) t e x (mixed_start hx) (Nat.le_refl _)
    refine Ev.step (f := fun k => spec_flFew.l1 k e n x t e) (fun k => ?_) (h2 _ ?_)
    · simp only [spec_flFew.l0]; rw [if_pos (by omega), if_pos (by omega), hx.at_ e (by omega) (by omega), Int.toNat_natCast, if_pos this]
    · have := ih (t + 1) x' h1 (by omega)
      rw [show ((t + 1 : Nat) : Int) = (t : Int) + 1 by omega] at this
      exact this
theorem flFew_ev (e : Nat) (he1 : 1 ≤ e) (he : e ≤ 10) (n : Int) (hn : n ≤ 1000) : Ev (fun k => spec_flFew.f k e n) (Hand.fewT e n) := by
  have hs := Hand.fewT_spec e he1 n hn
  refine Ev.congr (f := fun k => spec_flFew.l0 k e n (List.replicate (e + 1) 0) (0 : Nat)) (fun k => ?_) (few_l0 e he n _ hs.1 hs.2 (Hand.fewT e n) 0 _ (row_zero e) (by omega))
  unfold spec_flFew.f
  have e1 : wrap64 ((e : Int) + 1) = (e : Int) + 1 := wrap64_small (by omega) (by omega)
  rw [e1, if_pos (by omega), if_pos (by omega), show ((e : Int) + 1).toNat = e + 1 by omega]; rfl

theorem inn_dec (a b c : Int) : Hand.inn a b c = decide (b ≤ a ∧ a ≤ c) := by unfold Hand.inn; rw [Bool.decide_and]
theorem inn_some (a b c : Int) : spec_l1In.f a b c = some (Hand.inn a b c) := by rw [l1In_some, inn_dec]
theorem rd_nat (l : List Int) (i : Nat) (h : i < l.length) : rd l (i : Int) = l[i] := by unfold rd; simp [h]

theorem rd56_nat (l : List S56) (i : Nat) (h : i < l.length) : rd_T56 l (i : Int) = l[i] := by unfold rd_T56; simp [h]
theorem flDrops_go (l : List S56) (b : Int) (hl : l.length < 1000000000000) (d : Nat) : ∀ (i : Nat), i + d = l.length → Ev (fun k => spec_flDrops.l0 k b l (l.length : Int) (i : Int)) (!((l.drop i).any fun x => !(Hand.inn x.f0 1 b))) := by
  induction d with
  | zero =>
    intro i hi
    refine Ev.step (f := fun _ => some true) (fun k => ?_) ?_
    · simp only [spec_flDrops.l0]; rw [if_neg (by omega)]
    · rw [List.drop_eq_nil_of_le (by omega)]; exact Ev.now _
  | succ d ih =>
    intro i hi
    have hlt : i < l.length := by omega
    have hw : wrap64 ((i : Int) + 1) = ((i + 1 : Nat) : Int) := wrap64_small (by omega) (by omega)
    rw [List.drop_eq_getElem_cons hlt, List.any_cons]
    cases hc : Hand.inn l[i].f0 1 b with
    | true =>
      refine Ev.step (f := fun k => spec_flDrops.l0 k b l (l.length : Int) ((i + 1 : Nat) : Int)) (fun k => ?_) (by rw [Bool.not_true, Bool.false_or]; exact ih (i + 1) (by omega))
      simp only [spec_flDrops.l0]
      rw [if_pos (by omega), if_pos (by omega), if_pos (by omega), rd56_nat l i hlt, inn_some, hc, Option.bind_some, if_pos rfl, hw]
    | false =>
      refine Ev.step (f := fun _ => some false) (fun k => ?_) (by rw [Bool.not_false, Bool.true_or]; exact Ev.now _)
      simp only [spec_flDrops.l0]
      rw [if_pos (by omega), if_pos (by omega), if_pos (by omega), rd56_nat l i hlt, inn_some, hc, Option.bind_some, if_ff]
def tup (x : S56) : Int × Bool := (x.f0, x.f1)
theorem flFloors_some (a : Int) : spec_flFloors.f a = some (Hand.inn a 0 1000) := by unfold spec_flFloors.f; rw [inn_some, Option.bind_some]
theorem flDrops_ev (b : Int) (l : List S56) (hl : l.length < 1000000000000) : Ev (fun k => spec_flDrops.f k b l) (Hand.aDrop b (l.map tup)) := by
  unfold Hand.aDrop
  rw [List.length_map, List.any_map]
  cases hc : Hand.inn b 0 1000 with
  | true =>
    by_cases h : l.length ≤ 1000
    · rw [decide_eq_true h, Bool.and_true, Bool.true_and]
      refine Ev.congr (f := fun k => spec_flDrops.j0 k b l false) (fun k => ?_) (Ev.step (f := fun k => spec_flDrops.l0 k b l (l.length : Int) ((0 : Nat) : Int)) (fun k => ?_) (flDrops_go l b hl l.length 0 (by omega)))
      · unfold spec_flDrops.f
        rw [flFloors_some, hc, Option.bind_some, if_pos rfl, show decide ((l.length : Int) > 1000) = false from decide_eq_false (by omega)]
      · simp only [spec_flDrops.j0]; rw [if_ff]; rfl
    · rw [decide_eq_false h, Bool.and_false, Bool.false_and]
      refine Ev.congr (f := fun k => spec_flDrops.j0 k b l true) (fun k => ?_) (Ev.step (f := fun _ => some false) (fun k => ?_) (Ev.now _))
      · unfold spec_flDrops.f
        rw [flFloors_some, hc, Option.bind_some, if_pos rfl, show decide ((l.length : Int) > 1000) = true from decide_eq_true (by omega)]
      · simp only [spec_flDrops.j0]; exact if_pos trivial
  | false =>
    rw [Bool.false_and, Bool.false_and]
    refine Ev.congr (f := fun k => spec_flDrops.j0 k b l true) (fun k => ?_) (Ev.step (f := fun _ => some false) (fun k => ?_) (Ev.now _))
    · unfold spec_flDrops.f
      rw [flFloors_some, hc, Option.bind_some, if_ff]
    · simp only [spec_flDrops.j0]; exact if_pos trivial
theorem areDrops_ev (b : Int) (l : List S56) (hl : l.length < 1000000000000) : Ev (fun k => impl_AreDrops.f k b l) (Hand.aDrop b (l.map tup)) := Ev.now _
theorem szDrop_ev (l : List S58) (h : l.length ≤ 1000000) : laws_szDropS.f l 1000000 = some (1000000 - (l.length : Int)) := by
  unfold laws_szDropS.f
  have e : wrap64 (1000000 - (l.length : Int)) = 1000000 - (l.length : Int) := wrap64_small (by omega) (by omega)
  rw [e, if_neg (by omega)]
theorem szDrop_big (l : List S58) (h : ¬ l.length ≤ 1000000) (hm : l.length ≤ 9223372036854775807) : laws_szDropS.f l 1000000 = some (-1) := by
  unfold laws_szDropS.f
  have e : wrap64 (1000000 - (l.length : Int)) = 1000000 - (l.length : Int) := wrap64_small (by omega) (by omega)
  rw [e, if_pos (by omega)]

theorem l1Least_mn (a b : Int) : spec_l1Least.f a b = some (mn a b) := by
  unfold spec_l1Least.f mn
  by_cases h : a < b
  · rw [if_pos h, if_neg (by omega)]
  · rw [if_neg h]
    by_cases h2 : b < a
    · rw [if_pos h2]
    · rw [if_neg h2]; congr 1; omega
theorem l1Most_mx (a b : Int) : spec_l1Most.f a b = some (mx a b) := by
  unfold spec_l1Most.f mx
  by_cases h : a > b
  · rw [if_pos h, if_neg (by omega)]
  · rw [if_neg h]
    by_cases h2 : a < b
    · rw [if_pos h2]
    · rw [if_neg h2]; congr 1; omega
theorem flOpen_same : ∀ (k : Nat) (lo hi : Int) (l : List S56) (n i : Int), spec_flOpen.l0 k lo hi l n i = impl_open.l0 k lo hi l n i
  | 0, _, _, _, _, _ => rfl
  | k + 1, lo, hi, l, n, i => by
    simp only [spec_flOpen.l0, impl_open.l0, l1Least_mn, l1Most_mx, Option.bind_some, flOpen_same k]
theorem open_ends (l : List S56) (hl : l.length < 1000000000000) (d : Nat) : ∀ (i : Nat) (lo hi : Int), i + d = l.length → ∃ r, Ev (fun k => impl_open.l0 k lo hi l (l.length : Int) (i : Int)) r := by
  induction d with
  | zero =>
    intro i lo hi h
    exact ⟨(lo, hi), Ev.step (f := fun _ => some (lo, hi)) (fun k => by simp only [impl_open.l0]; rw [if_neg (by omega)]) (Ev.now _)⟩
  | succ d ih =>
    intro i lo hi h
    have hw : wrap64 ((i : Int) + 1) = ((i + 1 : Nat) : Int) := wrap64_small (by omega) (by omega)
    by_cases c : (rd_T56 l (i : Int)).f1 = true
    · obtain ⟨r, hr⟩ := ih (i + 1) lo (mn hi (wrap64 ((rd_T56 l (i : Int)).f0 - 1))) (by omega)
      exact ⟨r, Ev.step (fun k => by simp only [impl_open.l0]; rw [if_pos (by omega), if_pos (by omega), if_pos (by omega), if_pos c, hw]) hr⟩
    · obtain ⟨r, hr⟩ := ih (i + 1) (mx lo ((rd_T56 l (i : Int)).f0)) hi (by omega)
      exact ⟨r, Ev.step (fun k => by simp only [impl_open.l0]; rw [if_pos (by omega), if_pos (by omega), if_pos (by omega), if_neg c, hw]) hr⟩
theorem open_both (a : Int) (l : List S56) (hl : l.length < 1000000000000) : ∃ r, Ev (fun k => impl_open.f k a l) r ∧ Ev (fun k => spec_flOpen.f k a l) r := by
  obtain ⟨r, hr⟩ := open_ends l hl l.length 0 0 a (by omega)
  exact ⟨r, hr, Ev.congr (fun k => by unfold spec_flOpen.f; rw [flOpen_same]; rfl) hr⟩

theorem open_bds (F : Int) (hF : F ≤ 1000) (l : List S56) (hl : l.length < 1000000000000) (hf : ∀ (i : Nat) (h : i < l.length), 1 ≤ l[i].f0 ∧ l[i].f0 ≤ F) (d : Nat) : ∀ (i : Nat) (lo hi : Int), i + d = l.length → 0 ≤ lo → hi ≤ F → ∃ r : Int × Int, 0 ≤ r.1 ∧ r.2 ≤ F ∧ Ev (fun k => impl_open.l0 k lo hi l (l.length : Int) (i : Int)) r := by
  induction d with
  | zero =>
    intro i lo hi h h0 h1
    exact ⟨(lo, hi), h0, h1, Ev.step (f := fun _ => some (lo, hi)) (fun k => by simp only [impl_open.l0]; rw [if_neg (by omega)]) (Ev.now _)⟩
  | succ d ih =>
    intro i lo hi h h0 h1
    have hlt : i < l.length := by omega
    have hb := hf i hlt
    have HW := Aside0.mk (show wrap64 ((i : Int) + 1) = ((i + 1 : Nat) : Int) from wrap64_small (by omega) (by omega))
    by_cases c : (rd_T56 l (i : Int)).f1 = true
    · have hmn : mn hi (wrap64 ((rd_T56 l (i : Int)).f0 - 1)) ≤ hi := by unfold mn; split <;> omega
      obtain ⟨r, r0, r1, hr⟩ := ih (i + 1) lo (mn hi (wrap64 ((rd_T56 l (i : Int)).f0 - 1))) (by omega) h0 (by omega)
      exact ⟨r, r0, r1, Ev.step (fun k => by simp only [impl_open.l0]; rw [if_pos (by omega), if_pos (by omega), if_pos (by omega), if_pos c, HW.out]) hr⟩
    · have hmx : lo ≤ mx lo ((rd_T56 l (i : Int)).f0) := by unfold mx; split <;> omega
      obtain ⟨r, r0, r1, hr⟩ := ih (i + 1) (mx lo ((rd_T56 l (i : Int)).f0)) hi (by omega) (by omega) h1
      exact ⟨r, r0, r1, Ev.step (fun k => by simp only [impl_open.l0]; rw [if_pos (by omega), if_pos (by omega), if_pos (by omega), if_neg c, HW.out]) hr⟩
theorem aDrop_in {b : Int} {l : List S56} (h : Hand.aDrop b (l.map tup) = true) : (0 ≤ b ∧ b ≤ 1000) ∧ l.length ≤ 1000 ∧ ∀ (i : Nat) (hi : i < l.length), 1 ≤ l[i].f0 ∧ l[i].f0 ≤ b := by
  unfold Hand.aDrop at h
  rw [List.any_map, Bool.and_eq_true, Bool.and_eq_true, List.length_map] at h
  have h1 := h.1.1
  rw [inn_dec] at h1
  refine ⟨of_decide_eq_true h1, of_decide_eq_true h.1.2, fun i hi => ?_⟩
  have h2 := h.2
  rw [Bool.not_eq_true', List.any_eq_false] at h2
  have h3 := h2 l[i] (List.getElem_mem hi)
  have h4 : Hand.inn l[i].f0 1 b = true := by simpa [tup] using h3
  rw [inn_dec] at h4
  exact of_decide_eq_true h4
/-- What is left open, for both: bounded where there is something. -/
theorem left_both (a : Int) (l : List S56) (hl : l.length < 1000000000000) : ∃ r : Int × Int × Bool, (r.2.2 = true → 0 ≤ r.1 ∧ r.1 ≤ r.2.1 ∧ r.2.1 ≤ 1000 ∧ l.length ≤ 1000) ∧ Ev (fun k => spec_LeftOpen.f k a l) r ∧ Ev (fun k => impl_LeftOpen.f k a l) r := by
  have hs := flDrops_ev a l hl
  have hi := areDrops_ev a l hl
  cases hc : Hand.aDrop a (l.map tup) with
  | true =>
    rw [hc] at hs hi
    obtain ⟨hb, hlen, hf⟩ := aDrop_in hc
    obtain ⟨o, o0, o1, h1⟩ := open_bds a hb.2 l hl hf l.length 0 0 a (by omega) (by omega) (by omega)
    have h2 : Ev (fun k => spec_flOpen.f k a l) o := Ev.congr (fun k => by unfold spec_flOpen.f; rw [flOpen_same]; rfl) h1
    by_cases c : o.1 > o.2
    · refine ⟨(0, 0, false), fun h => by simp at h, ?_, ?_⟩
      · unfold spec_LeftOpen.f; exact Ev.bind hs (Ev.congr (fun k => if_pos rfl) (Ev.bind h2 (Ev.congr (fun k => if_pos c) (Ev.now _))))
      · unfold impl_LeftOpen.f; exact Ev.bind hi (Ev.congr (fun k => if_pos rfl) (Ev.bind h1 (Ev.congr (fun k => if_pos c) (Ev.now _))))
    · refine ⟨(o.1, o.2, true), fun _ => ⟨o0, by show o.1 ≤ o.2; omega, by show o.2 ≤ 1000; omega, hlen⟩, ?_, ?_⟩
      · unfold spec_LeftOpen.f; exact Ev.bind hs (Ev.congr (fun k => if_pos rfl) (Ev.bind h2 (Ev.congr (fun k => if_neg c) (Ev.now _))))
      · unfold impl_LeftOpen.f; exact Ev.bind hi (Ev.congr (fun k => if_pos rfl) (Ev.bind h1 (Ev.congr (fun k => if_neg c) (Ev.now _))))
  | false =>
    rw [hc] at hs hi
    refine ⟨(0, 0, false), fun h => by simp at h, ?_, ?_⟩
    · unfold spec_LeftOpen.f; exact Ev.bind hs (Ev.congr (fun k => if_ff _ _) (Ev.now _))
    · unfold impl_LeftOpen.f; exact Ev.bind hi (Ev.congr (fun k => if_ff _ _) (Ev.now _))
theorem broken_bd (l : List S56) (hl : l.length < 1000000000000) (d : Nat) : ∀ (i : Nat) (s : Int), i + d = l.length → 0 ≤ s → s ≤ i → ∃ r : Int, (0 ≤ r ∧ r ≤ l.length) ∧ Ev (fun k => impl_countBroken.l0 k s l (l.length : Int) (i : Int)) r ∧ Ev (fun k => spec_flBroken.l0 k s l (l.length : Int) (i : Int)) r := by
  induction d with
  | zero =>
    intro i s h h0 h1
    exact ⟨s, by omega, Ev.step (f := fun _ => some s) (fun k => by simp only [impl_countBroken.l0]; rw [if_neg (by omega)]) (Ev.now _), Ev.step (f := fun _ => some s) (fun k => by simp only [spec_flBroken.l0]; rw [if_neg (by omega)]) (Ev.now _)⟩
  | succ d ih =>
    intro i s h h0 h1
    have HW := Aside0.mk (show wrap64 ((i : Int) + 1) = ((i + 1 : Nat) : Int) ∧ wrap64 (s + 1) = s + 1 from ⟨wrap64_small (by omega) (by omega), wrap64_small (by omega) (by omega)⟩)
    by_cases c : (rd_T56 l (i : Int)).f1 = true
    · obtain ⟨r, hr, r1, r2⟩ := ih (i + 1) (s + 1) (by omega) (by omega) (by omega)
      exact ⟨r, hr, Ev.step (fun k => by simp only [impl_countBroken.l0]; rw [if_pos (by omega), if_pos (by omega), if_pos (by omega), if_pos c, HW.out.1, HW.out.2]) r1, Ev.step (fun k => by simp only [spec_flBroken.l0]; rw [if_pos (by omega), if_pos (by omega), if_pos (by omega), if_pos c, HW.out.1, HW.out.2]) r2⟩
    · obtain ⟨r, hr, r1, r2⟩ := ih (i + 1) s (by omega) h0 (by omega)
      exact ⟨r, hr, Ev.step (fun k => by simp only [impl_countBroken.l0]; rw [if_pos (by omega), if_pos (by omega), if_pos (by omega), if_neg c, HW.out.1]) r1, Ev.step (fun k => by simp only [spec_flBroken.l0]; rw [if_pos (by omega), if_pos (by omega), if_pos (by omega), if_neg c, HW.out.1]) r2⟩

theorem j0_true (x y z : Int) : Ev (fun k => spec_FewestLeft.j0 k x y z true) (0, false) := Ev.step (f := fun _ => some (0, false)) (fun k => by simp only [spec_FewestLeft.j0]; exact if_pos trivial) (Ev.now _)
theorem j0_same (x z : Int) : Ev (fun k => spec_FewestLeft.j0 k x x z false) (0, true) := Ev.step (f := fun _ => some (0, true)) (fun k => by simp only [spec_FewestLeft.j0]; rw [if_ff, if_pos trivial]) (Ev.now _)
theorem left_law (a0 a1 : Int) (l : List S56) (hl : l.length < 1000000000000) : ∃ r, Ev (fun k => spec_FewestLeft.f k a0 a1 l) r ∧ Ev (fun k => impl_FewestLeft.f k a0 a1 l) r := by
  obtain ⟨⟨low, high, ok⟩, hb, o1, o2⟩ := left_both a1 l hl
  obtain ⟨n, hn, n2, n1⟩ := broken_bd l hl l.length 0 0 (by omega) (by omega) (by omega)
  replace n1 : Ev (fun k => spec_flBroken.f k l) n := n1
  replace n2 : Ev (fun k => impl_countBroken.f k l) n := n2
  have himpl : ∀ r, leftRes a0 low high ok n = some r → Ev (fun k => impl_FewestLeft.f k a0 a1 l) r := fun r hr => by
    unfold impl_FewestLeft.f
    exact Ev.bind o2 (Ev.bind n2 (Ev.congr (f := fun _ => some r) (fun k => hr) (Ev.now _)))
  by_cases c1 : 1 ≤ a0 ∧ a0 ≤ 10
  · have HW := Aside0.mk (show wrap64 (a0 - n) = a0 - n from wrap64_small (by omega) (by omega))
    have hspec : ∀ r, Ev (fun k => (if ok = true then (if a0 - n < 0 then (spec_FewestLeft.j0 k low high (a0 - n) true) else (if a0 - n = 0 then (spec_FewestLeft.j0 k low high (a0 - n) (decide (low < high))) else (spec_FewestLeft.j0 k low high (a0 - n) false))) else (spec_FewestLeft.j0 k low high (a0 - n) true))) r → Ev (fun k => spec_FewestLeft.f k a0 a1 l) r := fun r hr => by
      refine Ev.congr (f := fun k => (spec_LeftOpen.f k a1 l).bind fun bt => ((spec_flBroken.f k l).bind fun t => (if bt.2.2 = true then (if (wrap64 (a0 - t)) < 0 then (spec_FewestLeft.j0 k bt.1 bt.2.1 (wrap64 (a0 - t)) true) else (if (wrap64 (a0 - t)) = 0 then (spec_FewestLeft.j0 k bt.1 bt.2.1 (wrap64 (a0 - t)) (decide (bt.1 < bt.2.1))) else (spec_FewestLeft.j0 k bt.1 bt.2.1 (wrap64 (a0 - t)) false))) else (spec_FewestLeft.j0 k bt.1 bt.2.1 (wrap64 (a0 - t)) true)))) (fun k => ?_) (Ev.bind o1 (Ev.bind n1 ?_))
      · unfold spec_FewestLeft.f; rw [flEggs_yes c1, Option.bind_some, if_pos rfl]
      · rw [HW.out]; exact hr
    unfold leftRes at himpl
    rw [if_pos c1, HW.out] at himpl
    clear o1 o2 n1 n2
    cases ok with
    | false =>
      refine ⟨(0, false), hspec _ (Ev.congr (fun k => if_ff _ _) (j0_true _ _ _)), himpl _ (if_ff _ _)⟩
    | true =>
      obtain ⟨b1, b2, b3, b4⟩ := hb rfl
      simp only at b1 b2 b3
      by_cases c2 : a0 - n < 0
      · exact ⟨(0, false), hspec _ (Ev.congr (fun k => if_pos rfl) (Ev.congr (fun k => if_pos c2) (j0_true _ _ _))), himpl _ (by rw [if_pos rfl, if_pos c2])⟩
      · by_cases c3 : low = high
        · subst c3
          refine ⟨(0, true), hspec _ (Ev.congr (fun k => if_pos rfl) (Ev.congr (fun k => if_neg c2) ?_)), himpl _ (by rw [if_pos rfl, if_neg c2, if_pos rfl])⟩
          by_cases c4 : a0 - n = 0
          · refine Ev.congr (fun k => if_pos c4) ?_
            rw [show decide (low < low) = false from decide_eq_false (by omega)]
            exact j0_same _ _
          · exact Ev.congr (fun k => if_neg c4) (j0_same _ _)
        · by_cases c4 : a0 - n = 0
          · refine ⟨(0, false), hspec _ (Ev.congr (fun k => if_pos rfl) (Ev.congr (fun k => if_neg c2) (Ev.congr (fun k => if_pos c4) ?_))), himpl _ (by rw [if_pos rfl, if_neg c2, if_neg c3, if_pos c4])⟩
            rw [show decide (low < high) = true from decide_eq_true (by omega)]
            exact j0_true _ _ _
          · have hd : wrap64 (high - low) = high - low := wrap64_small (by omega) (by omega)
            obtain ⟨e, he⟩ : ∃ e : Nat, a0 - n = e := ⟨(a0 - n).toNat, by omega⟩
            have hfew := flFew_ev e (by omega) (by omega) (high - low) (by omega)
            refine ⟨((Hand.fewT e (high - low) : Int), true), hspec _ (Ev.congr (fun k => if_pos rfl) (Ev.congr (fun k => if_neg c2) (Ev.congr (fun k => if_neg c4) ?_))), himpl _ (by rw [if_pos rfl, if_neg c2, if_neg c3, if_neg c4, hd, if_pos (by omega), he, Int.toNat_natCast])⟩
            rw [he]
            refine Ev.step (f := fun k => (spec_flFew.f k (e : Int) (high - low)).bind fun t => (some (t, true))) (fun k => ?_) (Ev.bind hfew (Ev.now _))
            simp only [spec_FewestLeft.j0]
            rw [if_ff, if_neg c3, hd]
  · refine ⟨(0, false), Ev.congr (f := fun _ => some (0, false)) (fun k => ?_) (Ev.now _), himpl _ ?_⟩
    · unfold spec_FewestLeft.f; rw [flEggs_no c1, Option.bind_some, if_ff]
    · unfold leftRes; rw [if_neg c1]
theorem FnExactFewestLeft : laws_FnExactFewestLeft.Pure := by
  intro a0 a1 l2 hm
  apply Ev.rounds
  unfold laws_FnExactFewestLeft.f
  by_cases h : l2.length ≤ 1000000
  · have ht := laws_toDropS.ev l2 h
    obtain ⟨r, hs, hi⟩ := left_law a0 a1 (l2.map cvDrop) (by rw [List.length_map]; omega)
    have hx : Ev (fun k => laws_intactDropS.f k (l2.map cvDrop) (l2.map cvDrop)) true := laws_eqDropS_same _ (by rw [List.length_map]; omega)
    refine Ev.congr (f := _) (fun k => by rw [szDrop_ev l2 h, Option.bind_some, if_neg (by omega)]) ?_
    refine Ev.bind (ht false) ?_
    refine Ev.bind hs ?_
    refine Ev.bind (ht false) ?_
    refine Ev.bind hi ?_
    refine Ev.congr (fun k => if_pos rfl) ?_
    refine Ev.congr (fun k => if_neg (by simp)) ?_
    refine Ev.bind (ht false) ?_
    refine Ev.bind hx ?_
    refine Ev.congr (fun k => if_pos rfl) ?_
    refine Ev.bind (ht true) ?_
    refine Ev.bind hi ?_
    refine Ev.congr (fun k => if_pos rfl) ?_
    refine Ev.congr (fun k => if_neg (by simp)) ?_
    exact Ev.now _
  · exact Ev.congr (f := fun _ => some true) (fun k => by rw [szDrop_big l2 h hm, Option.bind_some, if_pos (by omega)]) (Ev.now _)

end Go.Proofs.Ytnbimnnocnhggaa.Pure
