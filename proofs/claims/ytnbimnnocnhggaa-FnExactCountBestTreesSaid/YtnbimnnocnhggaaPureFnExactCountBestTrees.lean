/- The program's CountBestTrees answers as the reference's does, for every two numbers; no conditions. -/
import Derived.Test.YtnbimnnocnhggaaQFnExactCountBestTreesx3
namespace Go.Proofs.Ytnbimnnocnhggaa.Pure
open Go.RowKit Go.Proofs.Ytnbimnnocnhggaa.QFnExactCountBestTrees Go.Proofs.YtnbimnnocnhggaaW.PrintWords Go.Proofs.YtnbimnnocnhggaaW.PrintLast
set_option linter.unusedVariables false

theorem wrap64_small {x : Int} (h0 : -9223372036854775808 ≤ x) (h1 : x < 9223372036854775808) : wrap64 x = x := by
  unfold wrap64; omega

theorem rd_set (l : List Int) (i : Nat) (v : Int) (j : Int) (hj : 0 ≤ j) (hi : i < l.length) : rd (l.set i v) j = if j = (i : Int) then v else rd l j := by
  unfold rd
  by_cases h : j = (i : Int)
  · subst h
    simp [hi]
  · rw [if_neg h]
    have : i ≠ j.toNat := by omega
    simp [List.getD_eq_getElem?_getD, this]

theorem l1In_some (a b c : Int) : spec_l1In.f a b c = some (decide (b ≤ a ∧ a ≤ c)) := by
  unfold spec_l1In.f
  by_cases h : a ≥ b
  · rw [if_pos h]; congr 1; rw [Bool.eq_iff_iff]; simp; omega
  · rw [if_neg h]; congr 1; symm; rw [decide_eq_false_iff_not]; omega

theorem l1Least_some (a b : Int) : spec_l1Least.f a b = some (min a b) := by
  unfold spec_l1Least.f
  split <;> (congr 1; omega)

/-- The row for t tests. -/
structure Row (e t : Nat) (x : List Int) : Prop where
  len : x.length = e + 1
  at_ : ∀ j : Int, 0 ≤ j → j ≤ e → rd x j = Hand.reach t j.toNat
/-- Cells above m hold the next row already. -/
structure Mixed (e t m : Nat) (x : List Int) : Prop where
  len : x.length = e + 1
  at_ : ∀ j : Int, 0 ≤ j → j ≤ e → rd x j = if j ≤ m then Hand.reach t j.toNat else Hand.reach (t + 1) j.toNat

theorem row_zero (e : Nat) : Row e 0 (List.replicate (e + 1) 0) := by
  refine ⟨by simp, fun j h0 h1 => ?_⟩
  rw [Hand.reach_zero]
  unfold rd
  simp only [List.getD_eq_getElem?_getD, List.getElem?_replicate]
  split <;> rfl

theorem mixed_start {e t : Nat} {x : List Int} (h : Row e t x) : Mixed e t e x := ⟨h.len, fun j h0 h1 => by rw [if_pos h1]; exact h.at_ j h0 h1⟩
theorem mixed_end {e t : Nat} {x : List Int} (h : Mixed e t 0 x) : Row e (t + 1) x := ⟨h.len, fun j h0 h1 => by
  rw [h.at_ j h0 h1]
  by_cases h2 : j ≤ ((0 : Nat) : Int)
  · obtain rfl : j = 0 := by omega
    rw [if_pos h2]
    show Hand.reach t 0 = Hand.reach (t + 1) 0
    rw [Hand.reach_none, Hand.reach_none]
  · rw [if_neg h2]⟩
theorem mixed_step {e t m : Nat} {x : List Int} (h : Mixed e t (m + 1) x) (hm : m + 1 ≤ e) :
    Mixed e t m (x.set (m + 1) (min (rd x (m : Int) + rd x ((m : Int) + 1) + 1) 1000000001)) := by
  refine ⟨by rw [List.length_set]; exact h.len, fun j h0 h1 => ?_⟩
  rw [rd_set _ _ _ _ h0 (by rw [h.len]; omega)]
  by_cases hj : j = ((m + 1 : Nat) : Int)
  · subst hj
    rw [if_pos rfl, if_neg (by omega), h.at_ (m : Int) (by omega) (by omega), h.at_ ((m : Int) + 1) (by omega) (by omega), if_pos (by omega), if_pos (by omega)]
    rw [show ((m + 1 : Nat) : Int).toNat = m + 1 by omega, show ((m : Int)).toNat = m by omega, show ((m : Int) + 1).toNat = m + 1 by omega]
    rw [Hand.reach]
    omega
  · rw [if_neg hj, h.at_ j h0 h1]
    by_cases h2 : j ≤ ((m + 1 : Nat) : Int)
    · rw [if_pos h2, if_pos (by omega)]
    · rw [if_neg h2, if_neg (by omega)]
theorem mixed_bd {e t m : Nat} {x : List Int} (h : Mixed e t m x) (j : Int) (h0 : 0 ≤ j) (h1 : j ≤ e) : 0 ≤ rd x j ∧ rd x j ≤ 1000000001 := by
  rw [h.at_ j h0 h1]
  split <;> exact Hand.reach_bd _ _

theorem l1In_yes {a b c : Int} (h : b ≤ a ∧ a ≤ c) : spec_l1In.f a b c = some true := by rw [l1In_some, decide_eq_true h]
theorem l1In_no {a b c : Int} (h : ¬ (b ≤ a ∧ a ≤ c)) : spec_l1In.f a b c = some false := by rw [l1In_some, decide_eq_false h]
theorem if_ff {α : Type} (x y : α) : (if false = true then x else y) = y := if_neg (by decide)

theorem inner_few (e : Nat) (he : e ≤ 10) (a1 x6 : Int) (h6 : 0 ≤ x6) (h6' : x6 < 1000000000) (t m : Nat) : ∀ (x : List Int), Mixed e t m x → m ≤ e →
    ∃ x', Row e (t + 1) x' ∧ ∀ r, Ev (fun k => spec_flFew.l0 k e a1 x' (x6 + 1)) r → Ev (fun k => spec_flFew.l1 k e a1 x x6 m) r := by
  induction m with
  | zero =>
    intro x hx _
    exact ⟨x, mixed_end hx, fun r hr => Ev.step (f := fun k => spec_flFew.l0 k e a1 x (x6 + 1)) (fun k => by simp only [spec_flFew.l1]; rw [if_neg (by omega), wrap64_small (by omega) (by omega)]) hr⟩
  | succ m ih =>
    intro x hx hm
    obtain ⟨x', h1, h2⟩ := ih _ (mixed_step hx hm) (by omega)
    refine ⟨x', h1, fun r hr => Ev.step (f := fun k => spec_flFew.l1 k e a1 (x.set (m + 1) (min (rd x (m : Int) + rd x ((m : Int) + 1) + 1) 1000000001)) x6 m) (fun k => ?_) (h2 r hr)⟩
    have b1 := mixed_bd hx (m : Int) (by omega) (by omega)
    have b2 := mixed_bd hx ((m : Int) + 1) (by omega) (by omega)
    have hl := hx.len
    have e1 : wrap64 (((m + 1 : Nat) : Int) - 1) = m := by rw [wrap64_small (by omega) (by omega)]; omega
    have e2 : ((m + 1 : Nat) : Int) = (m : Int) + 1 := by omega
    simp only [spec_flFew.l1]
    rw [if_pos (by omega), e1, if_pos (by omega), if_pos (by omega), if_pos (by omega), if_pos (by omega), e2, wrap64_small (x := rd x (m : Int) + rd x ((m : Int) + 1)) (by omega) (by omega), wrap64_small (by omega) (by omega), l1Least_some, Option.bind_some,
      show ((m : Int) + 1).toNat = m + 1 by omega]

theorem few_l0 (e : Nat) (he : e ≤ 10) (n : Int) (T : Nat) (hT : T ≤ 1000) (hF : Hand.IsFew e n T) (d : Nat) : ∀ (t : Nat) (x : List Int), Row e t x → t + d = T → Ev (fun k => spec_flFew.l0 k e n x t) T := by
  induction d with
  | zero =>
    intro t x hx ht
    obtain rfl : t = T := by omega
    have hl := hx.len
    have := hF.1
    refine Ev.step (f := fun _ => some (t : Int)) (fun k => ?_) (Ev.now _)
    simp only [spec_flFew.l0]
    rw [if_pos (by omega), if_pos (by omega), hx.at_ e (by omega) (by omega), Int.toNat_natCast, if_neg (by omega)]
  | succ d ih =>
    intro t x hx ht
    have hl := hx.len
    have := hF.2 t (by omega)
    obtain ⟨x', h1, h2⟩ := inner_few e he n t (by omega) (by omega) t e x (mixed_start hx) (Nat.le_refl _)
    refine Ev.step (f := fun k => spec_flFew.l1 k e n x t e) (fun k => ?_) (h2 _ ?_)
    · simp only [spec_flFew.l0]; rw [if_pos (by omega), if_pos (by omega), hx.at_ e (by omega) (by omega), Int.toNat_natCast, if_pos this]
    · have := ih (t + 1) x' h1 (by omega)
      rw [show ((t + 1 : Nat) : Int) = (t : Int) + 1 by omega] at this
      exact this
theorem flFew_ev (e : Nat) (he1 : 1 ≤ e) (he : e ≤ 10) (n : Int) (hn : n ≤ 1000) : Ev (fun k => spec_flFew.f k e n) (Hand.fewT e n) := by
  have hs := Hand.fewT_spec e he1 n hn
  refine Ev.congr (f := fun k => spec_flFew.l0 k e n (List.replicate (e + 1) 0) (0 : Nat)) (fun k => ?_) (few_l0 e he n _ hs.1 hs.2 (Hand.fewT e n) 0 _ (row_zero e) (by omega))
  unfold spec_flFew.f
  have e1 : wrap64 ((e : Int) + 1) = (e : Int) + 1 := wrap64_small (by omega) (by omega)
  rw [e1, if_pos (by omega), if_pos (by omega), show ((e : Int) + 1).toNat = e + 1 by omega]; rfl

theorem inn_dec (a b c : Int) : Hand.inn a b c = decide (b ≤ a ∧ a ≤ c) := by unfold Hand.inn; rw [Bool.decide_and]
theorem inn_some (a b c : Int) : spec_l1In.f a b c = some (Hand.inn a b c) := by rw [l1In_some, inn_dec]
theorem rd_nat (l : List Int) (i : Nat) (h : i < l.length) : rd l (i : Int) = l[i] := by unfold rd; simp [h]

theorem set_at {α : Type} (a : List α) (i : Nat) (hi : a.length = i) (z v : α) (rest : List α) : (a ++ z :: rest).set i v = a ++ v :: rest := by
  subst hi
  rw [List.set_append_right _ _ (Nat.le_refl _), Nat.sub_self, List.set_cons_zero]
theorem rd_at_ (a : List Int) (i : Nat) (hi : a.length = i) (z : Int) (rest : List Int) : rd (a ++ z :: rest) (i : Int) = z := by
  subst hi
  unfold rd
  simp [List.getD_eq_getElem?_getD]
/-- No more than one more than the greatest count that is told. -/
def sat (x : Int) : Int := if x < 1000000000000001 then x else 1000000000000001
theorem sat_cases (x : Int) : (sat x = x ∧ x < 1000000000000001) ∨ (sat x = 1000000000000001 ∧ 1000000000000001 ≤ x) := by
  unfold sat; split
  · exact .inl ⟨rfl, by assumption⟩
  · exact .inr ⟨rfl, by omega⟩
theorem sat_bd (x : Int) (h : 0 ≤ x) : 0 ≤ sat x ∧ sat x ≤ 1000000000000001 ∧ sat x ≤ x := by rcases sat_cases x with h1 | h1 <;> omega
theorem sat_top {x : Int} (h : 1000000000000001 ≤ x) : sat x = 1000000000000001 := by rcases sat_cases x with h1 | h1 <;> omega
theorem sat_low {x : Int} (h : x ≤ 1000000000000001) : sat x = x := by rcases sat_cases x with h1 | h1 <;> omega
theorem trSum_some (S A B : Int) (hS : 0 ≤ S) (hA : 0 ≤ A) (hB : 0 ≤ B) : spec_trSum.f (sat S) (sat A) (sat B) = some (sat (S + A * B)) := by
  have bS := sat_bd S hS
  have bA := sat_bd A hA
  have bB := sat_bd B hB
  unfold spec_trSum.f
  by_cases hb : sat B > 0
  · rw [if_pos hb, if_neg (by omega), wrap64_small (x := 1000000000000001 - sat S) (by omega) (by omega), Int.tdiv_eq_ediv_of_nonneg (by omega)]
    have hq0 : 0 ≤ (1000000000000001 - sat S) / sat B := Int.ediv_nonneg (by omega) (by omega)
    have hq1 : (1000000000000001 - sat S) / sat B ≤ 1000000000000001 - sat S := Int.ediv_le_self _ (by omega)
    rw [wrap64_small (by omega) (by omega)]
    have hAB : sat A * sat B ≤ A * B := Int.mul_le_mul bA.2.2 bB.2.2 (by omega) hA
    by_cases hc : sat A > (1000000000000001 - sat S) / sat B
    · rw [if_pos hc]
      have h1 : 1000000000000001 - sat S < sat A * sat B := Int.lt_mul_of_ediv_lt (by omega) hc
      rw [sat_top (x := S + A * B) (by omega)]
    · rw [if_neg hc]
      have h1 : sat A * sat B ≤ 1000000000000001 - sat S := Int.mul_le_of_le_ediv (by omega) (by omega)
      have h0 : 0 ≤ sat A * sat B := Int.mul_nonneg bA.1 bB.1
      rw [wrap64_small (x := sat A * sat B) (by omega) (by omega), wrap64_small (by omega) (by omega)]
      congr 1
      symm
      rcases sat_cases S with ⟨s1, s2⟩ | ⟨s1, s2⟩
      · rcases sat_cases A with ⟨a1, a2⟩ | ⟨a1, a2⟩
        · rcases sat_cases B with ⟨b1, b2⟩ | ⟨b1, b2⟩
          · rw [s1, a1, b1] at h1
            rw [s1, a1, b1]
            exact sat_low (by omega)
          · -- B is cut: A is nought or one
            rw [b1] at h1
            have hA1 : sat A ≤ 1 := by omega
            by_cases hz : A = 0
            · rw [a1, hz, s1]; simp only [Int.zero_mul, Int.add_zero]; exact s1
            · have hA2 : A = 1 := by omega
              rw [a1, hA2] at h1
              rw [a1, hA2, b1, sat_top (by omega)]; omega
        · -- A is cut: B is one
          rw [a1] at h1
          have hB1 : sat B = 1 := by omega
          have hB2 : B = 1 := by rcases sat_cases B with ⟨b1, b2⟩ | ⟨b1, b2⟩ <;> omega
          rw [a1, hB1, sat_top (by rw [hB2]; omega)]
          rw [hB1] at h1; omega
      · -- S is cut: A is nought
        have hz : sat A = 0 := by
          rw [s1] at h1
          by_cases hz : sat A = 0
          · exact hz
          · have := Int.mul_pos (show 0 < sat A by omega) hb; omega
        have hz2 : A = 0 := by rcases sat_cases A with ⟨a1, a2⟩ | ⟨a1, a2⟩ <;> omega
        rw [hz, hz2]; simp only [Int.zero_mul, Int.add_zero]
  · rw [if_neg hb]
    have hz : sat B = 0 := by omega
    have hz2 : B = 0 := by rcases sat_cases B with ⟨b1, b2⟩ | ⟨b1, b2⟩ <;> omega
    rw [hz, hz2]
    simp only [Int.mul_zero]
    rw [wrap64_small (x := 0) (by omega) (by omega), Int.add_zero, Int.add_zero, wrap64_small (by omega) (by omega)]

theorem wcast (x : Int) (n : Nat) (h : x = (n : Int)) (hb : (n : Int) < 9223372036854775808) : wrap64 x = (n : Int) := by rw [h]; exact wrap64_small (by omega) hb
theorem tb_set {α : Type} (N : Nat) (f : Nat → α) (i : Nat) (v : α) : ((List.range N).map f).set i v = (List.range N).map (fun m => if m = i then v else f m) := by
  apply List.ext_getElem
  · simp
  · intro j h1 h2
    simp only [List.getElem_set, List.getElem_map, List.getElem_range]
    by_cases h : i = j
    · rw [if_pos h, if_pos h.symm]
    · rw [if_neg h, if_neg (fun h' => h h'.symm)]
theorem tb_rd (N : Nat) (f : Nat → Int) (i : Nat) (h : i < N) : rd ((List.range N).map f) (i : Int) = f i := by
  rw [rd_nat _ _ (by simpa using h)]; simp
theorem tb_rdL (N : Nat) (f : Nat → List Int) (i : Nat) (h : i < N) : rd_L1 ((List.range N).map f) (i : Int) = f i := by
  unfold rd_L1; simp [List.getD_eq_getElem?_getD, h]
theorem tb_len {α : Type} (N : Nat) (f : Nat → α) : ((List.range N).map f).length = N := by simp
theorem tb_congr {α : Type} (N : Nat) (f g : Nat → α) (h : ∀ m, m < N → f m = g m) : (List.range N).map f = (List.range N).map g := List.map_congr_left fun a ha => h a (List.mem_range.1 ha)
theorem tb_repl {α : Type} (N : Nat) (v : α) : List.replicate N v = (List.range N).map (fun _ => v) := by
  apply List.ext_getElem
  · simp
  · intro j h1 h2; simp
/-- The counts for 0, 1, .. floors, with so many tests and eggs, as the reference holds them. -/
def rowS (F t e : Nat) : List Int := (List.range (F + 1)).map fun n => sat (Hand.wy t e n)
def base (F : Nat) : List Int := (List.range (F + 1)).map fun n => if n = 0 then 1 else 0
theorem sat_one : sat 1 = 1 := by decide
theorem sat_zero : sat 0 = 0 := by decide
theorem rowS_none (F t e : Nat) (h : t = 0 ∨ e = 0) : rowS F t e = base F := by
  refine tb_congr _ _ _ fun n _ => ?_
  by_cases hn : n = 0
  · subst hn; rw [Hand.wy_zero, if_pos rfl, sat_one]
  · rw [Hand.wy_none t e n h (by omega), if_neg hn, sat_zero]
/-- The rows while those from c + 1 on are for one test more. -/
def mixS (E F t c : Nat) : List (List Int) := (List.range (E + 1)).map fun e => if e ≤ c then rowS F t e else rowS F (t + 1) e
/-- What is summed up for n floors. -/
def gS (t c n : Nat) (j : Nat) : Int := Hand.wy t (c - 1) j * Hand.wy t c (n - 1 - j)
def prtS (F t c n : Nat) (p : Int) : List Int := (List.range (F + 1)).map fun m => if m < n then sat (Hand.wy (t + 1) c m) else if m = n then p else 0
theorem gS_nonneg (t c n b : Nat) (hn : n ≤ 30) (hb : b < n) : 0 ≤ Hand.wy t (c - 1) b ∧ 0 ≤ Hand.wy t c (n - 1 - b) ∧ 0 ≤ Hand.sumD (gS t c n) b := by
  refine ⟨(Hand.wy_bd t (c - 1) b (by omega)).1, (Hand.wy_bd t c (n - 1 - b) (by omega)).1, Hand.sumD_nonneg _ _ fun j hj => Int.mul_nonneg (Hand.wy_bd t (c - 1) j (by omega)).1 (Hand.wy_bd t c (n - 1 - j) (by omega)).1⟩
theorem l5_ev (E F t c n : Nat) (x2 : Int) (hE : E ≤ 10) (hF : F ≤ 30) (hc1 : 1 ≤ c) (hcE : c ≤ E) (hn1 : 1 ≤ n) (hnF : n ≤ F) (r : List Int)
    (hk : Ev (fun k => spec_trCount.l4 k (E : Int) (F : Int) x2 (mixS E F t c) (c : Int) (prtS F t c n (sat (Hand.sumD (gS t c n) n))) ((n + 1 : Nat) : Int)) r) (d : Nat) :
    ∀ b : Nat, b + d = n → Ev (fun k => spec_trCount.l5 k (E : Int) (F : Int) x2 (mixS E F t c) (c : Int) (prtS F t c n (sat (Hand.sumD (gS t c n) b))) (n : Int) (b : Int)) r := by
  induction d with
  | zero =>
    intro b hb
    obtain rfl : b = n := by omega
    have hw : wrap64 ((b : Int) + 1) = ((b + 1 : Nat) : Int) := wcast _ _ (by omega) (by omega)
    refine Ev.step (fun k => ?_) hk
    simp only [spec_trCount.l5]
    rw [if_neg (by omega), hw]
  | succ d ih =>
    intro b hb
    have H := Aside0.mk (show wrap64 ((c : Int) - 1) = ((c - 1 : Nat) : Int) ∧ wrap64 ((n : Int) - 1) = ((n - 1 : Nat) : Int) ∧ wrap64 (((n - 1 : Nat) : Int) - (b : Int)) = ((n - 1 - b : Nat) : Int) ∧ wrap64 ((b : Int) + 1) = ((b + 1 : Nat) : Int) from
      ⟨wcast _ _ (by omega) (by omega), wcast _ _ (by omega) (by omega), wcast _ _ (by omega) (by omega), wcast _ _ (by omega) (by omega)⟩)
    have e1 : rd_L1 (mixS E F t c) ((c - 1 : Nat) : Int) = rowS F t (c - 1) := by unfold mixS; rw [tb_rdL _ _ _ (by omega), if_pos (by omega)]
    have e2 : rd_L1 (mixS E F t c) (c : Int) = rowS F t c := by unfold mixS; rw [tb_rdL _ _ _ (by omega), if_pos (by omega)]
    have l1 : (mixS E F t c).length = E + 1 := tb_len _ _
    have l2 : ∀ e, (rowS F t e).length = F + 1 := fun e => tb_len _ _
    have l3 : ∀ p, (prtS F t c n p).length = F + 1 := fun p => tb_len _ _
    have v0 : ∀ p, rd (prtS F t c n p) (n : Int) = p := fun p => by unfold prtS; rw [tb_rd _ _ _ (by omega), if_neg (by omega), if_pos rfl]
    have v1 : rd (rowS F t (c - 1)) (b : Int) = sat (Hand.wy t (c - 1) b) := by unfold rowS; rw [tb_rd _ _ _ (by omega)]
    have v2 : rd (rowS F t c) ((n - 1 - b : Nat) : Int) = sat (Hand.wy t c (n - 1 - b)) := by unfold rowS; rw [tb_rd _ _ _ (by omega)]
    have st : ∀ p q, (prtS F t c n p).set ((n : Int)).toNat q = prtS F t c n q := fun p q => by
      unfold prtS
      rw [Int.toNat_natCast, tb_set]
      refine tb_congr _ _ _ fun m _ => ?_
      by_cases h : m = n
      · rw [if_pos h, if_neg (by omega), if_pos h]
      · rw [if_neg h, if_neg h, if_neg h]
    obtain ⟨g1, g2, g3⟩ := gS_nonneg t c n b (by omega) (by omega)
    have hs := trSum_some _ _ _ g3 g1 g2
    have h1 := ih (b + 1) (by omega)
    refine Ev.step (fun k => ?_) h1
    simp only [spec_trCount.l5]
    rw [H.out.1, H.out.2.1, H.out.2.2.1, H.out.2.2.2, e1, e2, l1, l2, l2, l3, v0, v1, v2, if_pos (by omega), if_pos (by omega), if_pos (by omega), if_pos (by omega), if_pos (by omega), if_pos (by omega), if_pos (by omega), if_pos (by omega), if_pos (by omega), if_pos (by omega), if_pos (by omega), hs, Option.bind_some, st]
    rfl
theorem prtS_base (F t c : Nat) : base F = prtS F t c 1 (sat (Hand.sumD (gS t c 1) 0)) := by
  refine tb_congr _ _ _ fun m _ => ?_
  by_cases h : m = 0
  · subst h; rw [if_pos rfl, if_pos (by omega), Hand.wy_zero, sat_one]
  · rw [if_neg h, if_neg (by omega)]
    show (0 : Int) = if m = 1 then sat 0 else 0
    rw [sat_zero]; simp only [ite_self]
theorem prtS_next (F t c n : Nat) (hc : 1 ≤ c) (hn : 1 ≤ n) : prtS F t c n (sat (Hand.sumD (gS t c n) n)) = prtS F t c (n + 1) (sat (Hand.sumD (gS t c (n + 1)) 0)) := by
  refine tb_congr _ _ _ fun m _ => ?_
  by_cases h : m < n
  · rw [if_pos h, if_pos (by omega)]
  · rw [if_neg h]
    by_cases h2 : m = n
    · subst h2
      rw [if_pos rfl, if_pos (by omega), Hand.wy_step (t + 1) c m (by omega) hc hn]
      rfl
    · rw [if_neg h2, if_neg (by omega)]
      show (0 : Int) = if m = n + 1 then sat 0 else 0
      rw [sat_zero]; simp only [ite_self]
theorem prtS_full (F t c : Nat) (p : Int) : prtS F t c (F + 1) p = rowS F (t + 1) c := by
  refine tb_congr _ _ _ fun m hm => ?_
  rw [if_pos hm]
theorem l4_ev (E F t c : Nat) (x2 : Int) (hE : E ≤ 10) (hF : F ≤ 30) (hc1 : 1 ≤ c) (hcE : c ≤ E) (r : List Int)
    (hk : Ev (fun k => spec_trCount.l3 k (E : Int) (F : Int) x2 (mixS E F t (c - 1)) ((c - 1 : Nat) : Int)) r) (d : Nat) :
    ∀ n : Nat, 1 ≤ n → n + d = F + 1 → Ev (fun k => spec_trCount.l4 k (E : Int) (F : Int) x2 (mixS E F t c) (c : Int) (prtS F t c n (sat (Hand.sumD (gS t c n) 0))) (n : Int)) r := by
  induction d with
  | zero =>
    intro n h1 hn
    obtain rfl : n = F + 1 := by omega
    have hw : wrap64 ((c : Int) - 1) = ((c - 1 : Nat) : Int) := wcast _ _ (by omega) (by omega)
    have l1 : (mixS E F t c).length = E + 1 := tb_len _ _
    have st : (mixS E F t c).set ((c : Int)).toNat (rowS F (t + 1) c) = mixS E F t (c - 1) := by
      unfold mixS
      rw [Int.toNat_natCast, tb_set]
      refine tb_congr _ _ _ fun m _ => ?_
      by_cases h : m = c
      · rw [if_pos h, if_neg (by omega), h]
      · rw [if_neg h]
        by_cases h2 : m ≤ c
        · rw [if_pos h2, if_pos (by omega)]
        · rw [if_neg h2, if_neg (by omega)]
    rw [prtS_full]
    refine Ev.step (fun k => ?_) hk
    simp only [spec_trCount.l4]
    rw [if_neg (by omega), if_pos (by omega), if_pos (by rw [l1]; omega), st, hw]
  | succ d ih =>
    intro n h1 hn
    have h2 := ih (n + 1) (by omega) (by omega)
    rw [← prtS_next F t c n hc1 h1] at h2
    refine Ev.step (fun k => ?_) (l5_ev E F t c n x2 hE hF hc1 hcE h1 (by omega) r h2 n 0 (by omega))
    simp only [spec_trCount.l4]
    rw [if_pos (by omega)]
    rfl
theorem base_set (F : Nat) : (List.replicate (F + 1) (0 : Int)).set (0 : Int).toNat 1 = base F := by
  rw [tb_repl]
  show ((List.range (F + 1)).map (fun _ => (0 : Int))).set 0 1 = _
  rw [tb_set]; rfl
theorem l3_ev (E F t : Nat) (x2 : Int) (hE : E ≤ 10) (hF : F ≤ 30) (r : List Int)
    (hk : Ev (fun k => spec_trCount.l2 k (E : Int) (F : Int) (wrap64 (x2 - 1)) (mixS E F (t + 1) E)) r) :
    ∀ c : Nat, c ≤ E → Ev (fun k => spec_trCount.l3 k (E : Int) (F : Int) x2 (mixS E F t c) (c : Int)) r := by
  intro c
  induction c with
  | zero =>
    intro _
    have e0 : mixS E F t 0 = mixS E F (t + 1) E := by
      refine tb_congr _ _ _ fun m hm => ?_
      by_cases h : m ≤ 0
      · obtain rfl : m = 0 := by omega
        rw [if_pos (by omega), if_pos (by omega), rowS_none F t 0 (.inr rfl), rowS_none F (t + 1) 0 (.inr rfl)]
      · rw [if_neg h, if_pos (by omega)]
    rw [e0]
    refine Ev.step (fun k => ?_) hk
    simp only [spec_trCount.l3]
    rw [if_neg (by omega)]
  | succ c ih =>
    intro hc
    have h1 := ih (by omega)
    have hw : wrap64 ((F : Int) + 1) = ((F + 1 : Nat) : Int) := wcast _ _ (by omega) (by omega)
    refine Ev.step (fun k => ?_) (l4_ev E F t (c + 1) x2 hE hF (by omega) hc r h1 F 1 (by omega) (by omega))
    simp only [spec_trCount.l3]
    rw [hw, if_pos (by omega), if_pos (by omega), Int.toNat_natCast, if_pos (by omega), Option.bind_some, base_set, List.length_replicate, if_pos (by omega), ← prtS_base]
    rfl
theorem l2_ev (E F T : Nat) (hE : E ≤ 10) (hF : F ≤ 30) (hT : T ≤ 30) (d : Nat) : ∀ t : Nat, t + d = T → Ev (fun k => spec_trCount.l2 k (E : Int) (F : Int) (d : Int) (mixS E F t E)) (rowS F T E) := by
  induction d with
  | zero =>
    intro t ht
    obtain rfl : t = T := by omega
    have l1 : (mixS E F t E).length = E + 1 := tb_len _ _
    have e2 : rd_L1 (mixS E F t E) (E : Int) = rowS F t E := by unfold mixS; rw [tb_rdL _ _ _ (by omega), if_pos (by omega)]
    refine Ev.step (f := fun _ => some (rowS F t E)) (fun k => ?_) (Ev.now _)
    simp only [spec_trCount.l2]
    rw [if_neg (by omega), if_pos (by omega), if_pos (by rw [l1]; omega), e2]
  | succ d ih =>
    intro t ht
    have hw : wrap64 (((d + 1 : Nat) : Int) - 1) = ((d : Nat) : Int) := wcast _ _ (by omega) (by omega)
    have h1 := ih (t + 1) (by omega)
    rw [← hw] at h1
    refine Ev.step (fun k => ?_) (l3_ev E F t ((d + 1 : Nat) : Int) hE hF _ h1 E (Nat.le_refl _))
    simp only [spec_trCount.l2]
    rw [if_pos (by omega)]
theorem l0_ev (E F : Nat) (x0 x2 : Int) (hF : F ≤ 30) (r : List Int) (hk : Ev (fun k => if x0 = 0 then (spec_trCount.j1 k x0 (F : Int) x2 (base F) true) else (spec_trCount.j1 k x0 (F : Int) x2 (base F) (x2 == 0))) r) (d : Nat) :
    ∀ i : Nat, i + d = F + 1 → Ev (fun k => spec_trCount.l0 k x0 (F : Int) x2 (List.replicate i (0 : Int)) (i : Int)) r := by
  induction d with
  | zero =>
    intro i hi
    obtain rfl : i = F + 1 := by omega
    refine Ev.step (fun k => ?_) hk
    simp only [spec_trCount.l0]
    rw [if_neg (by omega), if_pos (by rw [List.length_replicate]; omega), Option.bind_some, base_set]
  | succ d ih =>
    intro i hi
    have hw : wrap64 ((i : Int) + 1) = ((i + 1 : Nat) : Int) := wcast _ _ (by omega) (by omega)
    have h1 := ih (i + 1) (by omega)
    rw [List.replicate_succ'] at h1
    refine Ev.step (fun k => ?_) h1
    simp only [spec_trCount.l0]
    rw [if_pos (by omega), if_pos (by rw [List.length_replicate]; omega), hw]
theorem base_ev (F : Nat) (hF : F ≤ 30) : Ev (fun k => spec_trCount.f k 0 (F : Int) 0) (base F) := by
  refine Ev.step (fun k => ?_) (l0_ev 0 F 0 0 hF (base F) ?_ (F + 1) 0 (by omega))
  · simp only [spec_trCount.f]; rfl
  · refine Ev.congr (fun k => if_pos rfl) (Ev.step (f := fun _ => some (base F)) (fun k => ?_) (Ev.now _))
    simp only [spec_trCount.j1]; rw [if_pos trivial]
theorem l1_ev (E F : Nat) (x2 : Int) (hE : E ≤ 10) (hF : F ≤ 30) (r : List Int) (hk : Ev (fun k => spec_trCount.l2 k (E : Int) (F : Int) x2 (mixS E F 0 E)) r) (d : Nat) :
    ∀ i : Nat, i + d = E + 1 → Ev (fun k => spec_trCount.l1 k (E : Int) (F : Int) x2 ((List.range (E + 1)).map fun e => if e < i then base F else []) ((E + 1 : Nat) : Int) (i : Int)) r := by
  induction d with
  | zero =>
    intro i hi
    obtain rfl : i = E + 1 := by omega
    have e0 : ((List.range (E + 1)).map fun e => if e < E + 1 then base F else []) = mixS E F 0 E := by
      refine tb_congr _ _ _ fun m hm => ?_
      rw [if_pos hm, if_pos (by omega), rowS_none F 0 m (.inl rfl)]
    rw [e0]
    refine Ev.step (fun k => ?_) hk
    simp only [spec_trCount.l1]
    rw [if_neg (by omega)]
  | succ d ih =>
    intro i hi
    have hw : wrap64 ((i : Int) + 1) = ((i + 1 : Nat) : Int) := wcast _ _ (by omega) (by omega)
    have h1 := ih (i + 1) (by omega)
    have st : ((List.range (E + 1)).map fun e => if e < i then base F else []).set ((i : Int)).toNat (base F) = ((List.range (E + 1)).map fun e => if e < i + 1 then base F else []) := by
      rw [Int.toNat_natCast, tb_set]
      refine tb_congr _ _ _ fun m _ => ?_
      by_cases h : m = i
      · rw [if_pos h, if_pos (by omega)]
      · rw [if_neg h]
        by_cases h2 : m < i
        · rw [if_pos h2, if_pos (by omega)]
        · rw [if_neg h2, if_neg (by omega)]
    refine Ev.step (f := fun k => (spec_trCount.f k 0 (F : Int) 0).bind fun t110 => (if 0 ≤ (i : Int) then (if (i : Int) < (((List.range (E + 1)).map fun e => if e < i then base F else []).length : Int) then (spec_trCount.l1 k (E : Int) (F : Int) x2 (((List.range (E + 1)).map fun e => if e < i then base F else []).set ((i : Int)).toNat t110) ((E + 1 : Nat) : Int) ((i + 1 : Nat) : Int)) else (none)) else (none))) (fun k => ?_) (Ev.bind (base_ev F hF) ?_)
    · simp only [spec_trCount.l1]
      rw [if_pos (by omega), hw]
    · refine Ev.congr (fun k => if_pos (by omega)) (Ev.congr (fun k => if_pos (by rw [tb_len]; omega)) ?_)
      rw [st]; exact h1
theorem trCount_ev (E F T : Nat) (hE : E ≤ 10) (h1 : 1 ≤ E) (hF : F ≤ 30) (hT : T ≤ 30) : Ev (fun k => spec_trCount.f k (E : Int) (F : Int) (T : Int)) (rowS F T E) := by
  refine Ev.step (fun k => ?_) (l0_ev E F (E : Int) (T : Int) hF (rowS F T E) ?_ (F + 1) 0 (by omega))
  · simp only [spec_trCount.f]; rfl
  · refine Ev.congr (fun k => if_neg (by omega)) ?_
    by_cases hz : T = 0
    · subst hz
      rw [rowS_none F 0 E (.inl rfl)]
      refine Ev.step (f := fun _ => some (base F)) (fun k => ?_) (Ev.now _)
      simp only [spec_trCount.j1]; rw [if_pos (by rfl)]
    · have hb : ((T : Int) == 0) = false := by rw [beq_eq_false_iff_ne]; omega
      have hw : wrap64 ((E : Int) + 1) = ((E + 1 : Nat) : Int) := wcast _ _ (by omega) (by omega)
      refine Ev.step (fun k => ?_) (l1_ev E F (T : Int) hE hF (rowS F T E) (l2_ev E F T hE hF hT T 0 (by omega)) (E + 1) 0 (by omega))
      simp only [spec_trCount.j1]
      rw [hb, hw, if_neg (by decide), if_pos (by omega), Int.toNat_natCast, if_pos (by omega), Option.bind_some, List.length_replicate, tb_repl]
      rfl

theorem sat_bnd (x : Int) : (if sat x > 1000000000000000 then ((0 : Int), false) else (sat x, true)) = Hand.bnd x := by
  unfold Hand.bnd
  rcases sat_cases x with ⟨h1, h2⟩ | ⟨h1, h2⟩
  · rw [h1]
  · rw [h1, if_pos (by omega), if_pos (by omega)]
theorem tail_ev (e f : Nat) (h1 : 1 ≤ e) (he : e ≤ 10) (hf : f ≤ 30) : Ev (fun k => spec_CountBestTrees.j0 k (e : Int) (f : Int) false) (Hand.bnd (Hand.wy (Hand.fewT e (f : Int)) e f)) := by
  have ht : Hand.fewT e (f : Int) ≤ 30 := Hand.fewT_small e f h1 hf
  have hfew := flFew_ev e h1 he (f : Int) (by omega)
  generalize Hand.fewT e (f : Int) = t at *
  have hl : (rowS f t e).length = f + 1 := tb_len _ _
  have hv : rd (rowS f t e) (f : Int) = sat (Hand.wy t e f) := by unfold rowS; rw [tb_rd _ _ _ (by omega)]
  refine Ev.step (f := fun k => (spec_flFew.f k (e : Int) (f : Int)).bind fun t' => (spec_trCount.f k (e : Int) (f : Int) t').bind fun l => (if 0 ≤ (f : Int) then (if (f : Int) < (l.length : Int) then (if (rd l (f : Int)) > 1000000000000000 then (some (0, false)) else (some (rd l (f : Int), true))) else (none)) else (none))) (fun k => ?_) (Ev.bind hfew (Ev.bind (trCount_ev e f t he h1 hf ht) ?_))
  · simp only [spec_CountBestTrees.j0]; rw [if_neg (by decide)]
  · refine Ev.congr (fun k => if_pos (by omega)) (Ev.congr (fun k => if_pos (by rw [hl]; omega)) ?_)
    rw [hv, ← sat_bnd]
    refine Ev.congr (f := fun _ => some (if sat (Hand.wy t e f) > 1000000000000000 then ((0 : Int), false) else (sat (Hand.wy t e f), true))) (fun k => ?_) (Ev.now _)
    split <;> rfl
theorem spec_ev (e f : Int) : Ev (fun k => spec_CountBestTrees.f k e f) (Hand.bestCount e f) := by
  have hno : Ev (fun k => spec_CountBestTrees.j0 k e f true) (0, false) := Ev.step (f := fun _ => some (0, false)) (fun k => by simp only [spec_CountBestTrees.j0]; exact if_pos trivial) (Ev.now _)
  unfold Hand.bestCount
  cases h1 : Hand.inn e 1 10 with
  | false =>
    rw [Bool.false_and, if_ff]
    refine Ev.congr (fun k => ?_) hno
    unfold spec_CountBestTrees.f spec_flEggs.f
    rw [inn_some, h1, Option.bind_some, Option.bind_some, if_ff]
  | true =>
    cases h2 : Hand.inn f 0 30 with
    | false =>
      rw [Bool.and_false, if_ff]
      refine Ev.congr (fun k => ?_) hno
      unfold spec_CountBestTrees.f spec_flEggs.f spec_trFloors.f
      rw [inn_some, h1, Option.bind_some, Option.bind_some, if_pos rfl, inn_some, h2, Option.bind_some, Option.bind_some]
      rfl
    | true =>
      obtain ⟨e, rfl, he1, he2⟩ := Hand.inn_nat h1 (by omega)
      obtain ⟨f, rfl, hf1, hf2⟩ := Hand.inn_nat h2 (by omega)
      rw [if_pos (by rfl)]
      simp only [Int.toNat_natCast]
      refine Ev.congr (f := fun k => spec_CountBestTrees.j0 k (e : Int) (f : Int) false) (fun k => ?_) ?_
      · unfold spec_CountBestTrees.f spec_flEggs.f spec_trFloors.f
        rw [inn_some, h1, Option.bind_some, Option.bind_some, if_pos rfl, inn_some, h2, Option.bind_some, Option.bind_some]
        rfl
      · exact tail_ev e f (by omega) (by omega) (by omega)
theorem FnExactCountBestTrees : laws_FnExactCountBestTrees.Pure := by
  intro a b _ _
  refine Ev.rounds ?_
  unfold laws_FnExactCountBestTrees.f
  refine Ev.bind (spec_ev a b) (Ev.congr (f := fun _ => some true) (fun k => ?_) (Ev.now _))
  unfold impl_CountBestTrees.f
  rw [Option.bind_some, if_pos rfl, if_neg (by simp)]

end Go.Proofs.Ytnbimnnocnhggaa.Pure
