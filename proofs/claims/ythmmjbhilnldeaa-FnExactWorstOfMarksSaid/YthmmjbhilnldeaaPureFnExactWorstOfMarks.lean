/- The program's WorstOfMarks answers as the reference's does, and leaves the row that it is given alone, for every floors and marks; no conditions. -/
import Derived.Test.YthmmjbhilnldeaaQFnExactWorstOfMarksx3
namespace Go.Proofs.Ythmmjbhilnldeaa.Pure
open Go.RowKit Go.Proofs.Ythmmjbhilnldeaa.QFnExactWorstOfMarks Go.Proofs.YthmmjbhilnldeaaW.PrintWords Go.Proofs.YthmmjbhilnldeaaW.PrintLast
set_option linter.unusedVariables false

theorem wrap64_small {x : Int} (h0 : -9223372036854775808 ≤ x) (h1 : x < 9223372036854775808) : wrap64 x = x := by
  unfold wrap64; omega
theorem l1In_some (a b c : Int) : spec_l1In.f a b c = some (decide (b ≤ a ∧ a ≤ c)) := by
  unfold spec_l1In.f
  by_cases h : a ≥ b
  · rw [if_pos h]; congr 1; rw [Bool.eq_iff_iff]; simp; omega
  · rw [if_neg h]; congr 1; symm; rw [decide_eq_false_iff_not]; omega
theorem l1In_yes {a b c : Int} (h : b ≤ a ∧ a ≤ c) : spec_l1In.f a b c = some true := by rw [l1In_some, decide_eq_true h]
theorem l1In_no {a b c : Int} (h : ¬ (b ≤ a ∧ a ≤ c)) : spec_l1In.f a b c = some false := by rw [l1In_some, decide_eq_false h]
theorem if_ff {α : Type} (x y : α) : (if false = true then x else y) = y := if_neg (by decide)

theorem within_some (a b c : Int) : impl_within.f a b c = some (decide (b ≤ a ∧ a ≤ c)) := by
  unfold impl_within.f
  by_cases h : a ≥ b
  · rw [if_pos h]; congr 1; rw [Bool.eq_iff_iff]; simp; omega
  · rw [if_neg h]; congr 1; symm; rw [decide_eq_false_iff_not]; omega
theorem within_yes {a b c : Int} (h : b ≤ a ∧ a ≤ c) : impl_within.f a b c = some true := by rw [within_some, decide_eq_true h]
theorem within_no {a b c : Int} (h : ¬ (b ≤ a ∧ a ≤ c)) : impl_within.f a b c = some false := by rw [within_some, decide_eq_false h]

theorem rising_l0 (a : Int) (l : List Int) (hl : l.length < 1000000000000) (d : Nat) : ∀ (i : Int), 0 ≤ i → i ≤ l.length → (l.length : Int) - i = d →
    ∃ r, Ev (fun k => impl_areRising.l0 k a l l (l.length : Int) i) r ∧ Ev (fun k => spec_l1Rising.l0 k l 1 a l (l.length : Int) i) r ∧ (r = true → ∀ j : Int, i ≤ j → j < l.length → 1 ≤ rd l j ∧ rd l j ≤ a ∧ (0 < j → rd l (j - 1) < rd l j)) := by
  induction d with
  | zero =>
    intro i h0 h1 hd
    refine ⟨true, Ev.step (f := fun _ => some true) (fun k => ?_) (Ev.now _), Ev.step (f := fun _ => some true) (fun k => ?_) (Ev.now _), fun _ j h2 h3 => by omega⟩
    · simp only [impl_areRising.l0]; rw [if_neg (by omega)]
    · simp only [spec_l1Rising.l0]; rw [if_neg (by omega)]
  | succ d ih =>
    intro i h0 h1 hd
    have hlt : i < (l.length : Int) := by omega
    have e1 : wrap64 (i + 1) = i + 1 := wrap64_small (by omega) (by omega)
    have e2 : wrap64 (i - 1) = i - 1 := wrap64_small (by omega) (by omega)
    obtain ⟨r, hr, hs, hp⟩ := ih (i + 1) (by omega) (by omega) (by omega)
    by_cases hw : 1 ≤ rd l i ∧ rd l i ≤ a
    · by_cases hi : i > 0
      · by_cases hc : rd l (i - 1) ≥ rd l i
        · refine ⟨false, Ev.step (f := fun _ => some false) (fun k => ?_) (Ev.now _), Ev.step (f := fun _ => some false) (fun k => ?_) (Ev.now _), fun h => by cases h⟩
          · simp only [impl_areRising.l0]; rw [if_pos hlt, if_pos h0, if_pos hlt, within_yes hw, Option.bind_some, if_pos rfl, if_pos hi, e2, if_pos (by omega), if_pos (by omega), if_pos hc]
          · simp only [spec_l1Rising.l0]; rw [if_pos hlt, if_pos h0, if_pos hlt, l1In_yes hw, Option.bind_some, if_pos rfl, if_pos hi, e2, if_pos (by omega), if_pos (by omega), if_pos hc]
        · refine ⟨r, Ev.step (f := fun k => impl_areRising.l0 k a l l (l.length : Int) (i + 1)) (fun k => ?_) hr, Ev.step (f := fun k => spec_l1Rising.l0 k l 1 a l (l.length : Int) (i + 1)) (fun k => ?_) hs, fun h j h2 h3 => ?_⟩
          · simp only [impl_areRising.l0]; rw [if_pos hlt, if_pos h0, if_pos hlt, within_yes hw, Option.bind_some, if_pos rfl, if_pos hi, e2, if_pos (by omega), if_pos (by omega), if_neg hc, e1]
          · simp only [spec_l1Rising.l0]; rw [if_pos hlt, if_pos h0, if_pos hlt, l1In_yes hw, Option.bind_some, if_pos rfl, if_pos hi, e2, if_pos (by omega), if_pos (by omega), if_neg hc, e1]
          · by_cases e : j = i
            · subst e; exact ⟨hw.1, hw.2, fun _ => by omega⟩
            · exact hp h j (by omega) h3
      · refine ⟨r, Ev.step (f := fun k => impl_areRising.l0 k a l l (l.length : Int) (i + 1)) (fun k => ?_) hr, Ev.step (f := fun k => spec_l1Rising.l0 k l 1 a l (l.length : Int) (i + 1)) (fun k => ?_) hs, fun h j h2 h3 => ?_⟩
        · simp only [impl_areRising.l0]; rw [if_pos hlt, if_pos h0, if_pos hlt, within_yes hw, Option.bind_some, if_pos rfl, if_neg hi, e1]
        · simp only [spec_l1Rising.l0]; rw [if_pos hlt, if_pos h0, if_pos hlt, l1In_yes hw, Option.bind_some, if_pos rfl, if_neg hi, e1]
        · by_cases e : j = i
          · subst e; exact ⟨hw.1, hw.2, fun h => absurd h hi⟩
          · exact hp h j (by omega) h3
    · refine ⟨false, Ev.step (f := fun _ => some false) (fun k => ?_) (Ev.now _), Ev.step (f := fun _ => some false) (fun k => ?_) (Ev.now _), fun h => by cases h⟩
      · simp only [impl_areRising.l0]; rw [if_pos hlt, if_pos h0, if_pos hlt, within_no hw, Option.bind_some, if_ff]
      · simp only [spec_l1Rising.l0]; rw [if_pos hlt, if_pos h0, if_pos hlt, l1In_no hw, Option.bind_some, if_ff]
/-- Marks as the program and as the reference see them. -/
theorem good_ev (a : Int) (l : List Int) (hl : l.length < 1000000000000) : ∃ r, Ev (fun k => impl_AreMarks.f k a l) r ∧ Ev (fun k => spec_stGood.f k a l) r ∧ (r = true → (0 ≤ a ∧ a ≤ 100) ∧ ∀ j : Int, 0 ≤ j → j < l.length → 1 ≤ rd l j ∧ rd l j ≤ a ∧ (0 < j → rd l (j - 1) < rd l j)) := by
  by_cases h : 0 ≤ a ∧ a ≤ 100
  · obtain ⟨r, h1, h2, h3⟩ := rising_l0 a l hl l.length 0 (by omega) (by omega) (by omega)
    refine ⟨r, ?_, ?_, fun hr => ⟨h, h3 hr⟩⟩
    · refine Ev.congr (f := fun k => (impl_areRising.f k a l).bind fun t => some t) (fun k => ?_) (Ev.bind (f := fun _ t => some t) h1 (Ev.now _))
      unfold impl_AreMarks.f impl_isMarked.f
      rw [within_yes h, Option.bind_some, Option.bind_some, if_pos rfl]
    · refine Ev.congr (f := fun k => (spec_l1Rising.f k l 1 a).bind fun t => some t) (fun k => ?_) (Ev.bind (f := fun _ t => some t) h2 (Ev.now _))
      unfold spec_stGood.f spec_stFloors.f
      rw [l1In_yes h, Option.bind_some, Option.bind_some, if_pos rfl]
  · refine ⟨false, Ev.congr (f := fun _ => some false) (fun k => ?_) (Ev.now _), Ev.congr (f := fun _ => some false) (fun k => ?_) (Ev.now _), fun h => by cases h⟩
    · unfold impl_AreMarks.f impl_isMarked.f
      rw [within_no h, Option.bind_some, Option.bind_some, if_ff]
    · unfold spec_stGood.f spec_stFloors.f
      rw [l1In_no h, Option.bind_some, Option.bind_some, if_ff]

/-- What lies behind the marks: floor by floor, in both texts. -/
theorem tail_both (b m : Int) (hb0 : 0 ≤ b) (hb : b ≤ 1000) (hm : m ≤ 1000) (d : Nat) : ∀ (x : List S65) (f : Int), 0 ≤ f → f ≤ b + 1 → b + 2 - f = d → x.length + d ≤ 100000000 →
    ∃ r : List S65, Ev (fun k => spec_stDrops.l1 k b x m f) r ∧ Ev (fun k => impl_markDrops.l1 k b x m f) r ∧ r.length ≤ x.length + d := by
  induction d with
  | zero => intro x f h0 h1 hd _; exact absurd hd (by omega)
  | succ d ih =>
    intro x f h0 h1 hd hx
    have e1 : wrap64 (f + 1) = f + 1 := wrap64_small (by omega) (by omega)
    have e2 : wrap64 (b + 1) = b + 1 := wrap64_small (by omega) (by omega)
    by_cases hf : f ≤ m
    · by_cases hc : f > b
      · have hfb : f = b + 1 := by omega
        refine ⟨x ++ [⟨f, decide (f > b)⟩], Ev.step (f := fun _ => some (x ++ [⟨f, decide (f > b)⟩])) (fun k => ?_) (Ev.now _), Ev.step (f := fun k => impl_markDrops.l1 k b (x ++ [⟨f, decide (f > b)⟩]) m (f + 1)) (fun k => ?_) (Ev.step (f := fun _ => some (x ++ [⟨f, decide (f > b)⟩])) (fun k => ?_) (Ev.now _)), by simp⟩
        · simp only [spec_stDrops.l1]; rw [if_pos hf, if_pos (by omega), Option.bind_some, if_pos hc]
        · simp only [impl_markDrops.l1]; rw [if_pos hf, e2, if_pos (by omega), if_pos (by omega), e1]
        · simp only [impl_markDrops.l1]
          by_cases h2 : f + 1 ≤ m
          · rw [if_pos h2, e2, if_neg (by omega)]
          · rw [if_neg h2]
      · obtain ⟨r, h2, h3, h4⟩ := ih (x ++ [⟨f, decide (f > b)⟩]) (f + 1) (by omega) (by omega) (by omega) (by simp; omega)
        refine ⟨r, Ev.step (f := fun k => spec_stDrops.l1 k b (x ++ [⟨f, decide (f > b)⟩]) m (f + 1)) (fun k => ?_) h2, Ev.step (f := fun k => impl_markDrops.l1 k b (x ++ [⟨f, decide (f > b)⟩]) m (f + 1)) (fun k => ?_) h3, by simp at h4; omega⟩
        · simp only [spec_stDrops.l1]; rw [if_pos hf, if_pos (by omega), Option.bind_some, if_neg hc, e1]
        · simp only [impl_markDrops.l1]; rw [if_pos hf, e2, if_pos (by omega), if_pos (by omega), e1]
    · refine ⟨x, Ev.step (f := fun _ => some x) (fun k => ?_) (Ev.now _), Ev.step (f := fun _ => some x) (fun k => ?_) (Ev.now _), by omega⟩
      · simp only [spec_stDrops.l1]; rw [if_neg hf]
      · simp only [impl_markDrops.l1]; rw [if_neg hf]
theorem marks_both (b : Int) (hb0 : 0 ≤ b) (hb : b ≤ 1000) (l : List Int) (hl : l.length ≤ 1000000) (hv : ∀ j : Int, 0 ≤ j → j < l.length → 1 ≤ rd l j ∧ rd l j ≤ 1000) (d : Nat) : ∀ (x : List S65) (least most i : Int), 0 ≤ least → least ≤ b → most ≤ 1000 → 0 ≤ i → i ≤ l.length → (l.length : Int) - i = d → (x.length : Int) ≤ i →
    ∃ r : List S65, Ev (fun k => spec_stDrops.l0 k b x least most l (l.length : Int) i) r ∧ Ev (fun k => impl_markDrops.l0 k b x least most l (l.length : Int) i) r ∧ r.length ≤ x.length + d + 1003 := by
  induction d with
  | zero =>
    intro x least most i h0 h1 h2 h3 h4 hd hx
    have e1 : wrap64 (least + 1) = least + 1 := wrap64_small (by omega) (by omega)
    obtain ⟨r, hs, hi, hr⟩ := tail_both b most hb0 hb h2 (b + 2 - (least + 1)).toNat x (least + 1) (by omega) (by omega) (by omega) (by omega)
    refine ⟨r, Ev.step (f := fun k => spec_stDrops.j1 k b x least most) (fun k => ?_) (Ev.step (f := fun k => spec_stDrops.l1 k b x most (least + 1)) (fun k => ?_) hs), Ev.step (f := fun k => impl_markDrops.j1 k b x least most) (fun k => ?_) (Ev.step (f := fun k => impl_markDrops.l1 k b x most (least + 1)) (fun k => ?_) hi), by omega⟩
    · simp only [spec_stDrops.l0]; rw [if_neg (by omega)]
    · simp only [spec_stDrops.j1]; rw [e1]
    · simp only [impl_markDrops.l0]; rw [if_neg (by omega)]
    · simp only [impl_markDrops.j1]; rw [e1]
  | succ d ih =>
    intro x least most i h0 h1 h2 h3 h4 hd hx
    have hlt : i < (l.length : Int) := by omega
    obtain ⟨v1, v2⟩ := hv i h3 hlt
    have e0 : wrap64 (i + 1) = i + 1 := wrap64_small (by omega) (by omega)
    generalize hV : rd l i = V at *
    by_cases hc : V > b
    · have e1 : wrap64 (least + 1) = least + 1 := wrap64_small (by omega) (by omega)
      have e2 : wrap64 (V - 1) = V - 1 := wrap64_small (by omega) (by omega)
      obtain ⟨r, hs, hi, hr⟩ := tail_both b (V - 1) hb0 hb (by omega) (b + 2 - (least + 1)).toNat (x ++ [⟨V, true⟩]) (least + 1) (by omega) (by omega) (by omega) (by simp; omega)
      refine ⟨r, Ev.step (f := fun k => spec_stDrops.j1 k b (x ++ [⟨V, true⟩]) least (V - 1)) (fun k => ?_) (Ev.step (f := fun k => spec_stDrops.l1 k b (x ++ [⟨V, true⟩]) (V - 1) (least + 1)) (fun k => ?_) hs), Ev.step (f := fun k => impl_markDrops.j1 k b (x ++ [⟨V, true⟩]) least (V - 1)) (fun k => ?_) (Ev.step (f := fun k => impl_markDrops.l1 k b (x ++ [⟨V, true⟩]) (V - 1) (least + 1)) (fun k => ?_) hi), by simp at hr; omega⟩
      · simp only [spec_stDrops.l0]; rw [if_pos hlt, if_pos h3, if_pos hlt, if_pos (by omega), hV, Option.bind_some, if_pos hc, e2, decide_eq_true hc]
      · simp only [spec_stDrops.j1]; rw [e1]
      · simp only [impl_markDrops.l0]; rw [if_pos hlt, if_pos h3, if_pos hlt, hV, if_pos hc, if_pos (by omega), e2]
      · simp only [impl_markDrops.j1]; rw [e1]
    · obtain ⟨r, hs, hi, hr⟩ := ih (x ++ [⟨V, false⟩]) V most (i + 1) (by omega) (by omega) h2 (by omega) (by omega) (by omega) (by simp; omega)
      refine ⟨r, Ev.step (f := fun k => spec_stDrops.l0 k b (x ++ [⟨V, false⟩]) V most l (l.length : Int) (i + 1)) (fun k => ?_) hs, Ev.step (f := fun k => impl_markDrops.l0 k b (x ++ [⟨V, false⟩]) V most l (l.length : Int) (i + 1)) (fun k => ?_) hi, by simp at hr; omega⟩
      · simp only [spec_stDrops.l0]; rw [if_pos hlt, if_pos h3, if_pos hlt, if_pos (by omega), hV, Option.bind_some, if_neg hc, e0, decide_eq_false hc]
      · simp only [impl_markDrops.l0]; rw [if_pos hlt, if_pos h3, if_pos hlt, hV, if_neg hc, if_pos (by omega), e0]
theorem drops_both (a : Int) (ha : a ≤ 1000) (l : List Int) (hl : l.length ≤ 1000000) (hv : ∀ j : Int, 0 ≤ j → j < l.length → 1 ≤ rd l j ∧ rd l j ≤ 1000) (b : Int) (hb0 : 0 ≤ b) (hb : b ≤ 1000) :
    ∃ r : List S65, Ev (fun k => spec_stDrops.f k a l b) r ∧ Ev (fun k => impl_markDrops.f k a l b) r ∧ r.length ≤ 2000000 := by
  obtain ⟨r, hs, hi, hr⟩ := marks_both b hb0 hb l hl hv l.length [] 0 a 0 (by omega) hb0 ha (by omega) (by omega) (by omega) (by simp)
  exact ⟨r, hs, hi, by simp at hr; omega⟩

theorem law_of (a0 : Int) (l1 : List Int) (hle : l1.length ≤ 1000000) (v : Int) (b : Bool) (hs : Ev (fun k => spec_WorstOfMarks.f k a0 l1) (v, b)) (hi : Ev (fun k => impl_WorstOfMarks.f k a0 l1) (v, b)) : ∃ k, laws_FnExactWorstOfMarks.f k a0 l1 = some true := by
  apply Ev.rounds
  unfold laws_FnExactWorstOfMarks.f
  refine Ev.congr (fun k => if_neg (by omega)) ?_
  have ht := laws_toIntS.ev l1 hle
  have hx : Ev (fun k => laws_intactIntS.f k l1 l1) true := eqIntS_same l1 (by omega)
  refine Ev.bind (ht false) ?_
  refine Ev.bind hs ?_
  refine Ev.bind (ht false) ?_
  refine Ev.bind hi ?_
  refine Ev.congr (fun k => if_pos rfl) ?_
  refine Ev.congr (fun k => if_neg (by simp)) ?_
  refine Ev.bind (ht false) ?_
  refine Ev.bind hx ?_
  refine Ev.congr (fun k => if_pos rfl) ?_
  refine Ev.bind (ht true) ?_
  refine Ev.bind hi ?_
  refine Ev.congr (fun k => if_pos rfl) ?_
  exact Ev.congr (fun k => if_neg (by simp)) (Ev.now _)

theorem l1Most_some (a b : Int) : spec_l1Most.f a b = some (mx a b) := by
  unfold spec_l1Most.f mx
  by_cases h : a > b
  · rw [if_pos h]; congr 1; split <;> omega
  · rw [if_neg h]; congr 1; split <;> omega
theorem worst_both (a : Int) (ha : a ≤ 100) (l : List Int) (hl : l.length ≤ 1000000) (hv : ∀ j : Int, 0 ≤ j → j < l.length → 1 ≤ rd l j ∧ rd l j ≤ 1000) (d : Nat) : ∀ (b w s : Int), 0 ≤ b → b ≤ a + 1 → a + 1 - b = d → 0 ≤ w → w ≤ 2000000 → 0 ≤ s → s ≤ 2000000 * b →
    ∃ W S : Int, Ev (fun k => spec_stWorst.l0 k a l w b) W ∧ Ev (fun k => impl_marked.l0 k a l w s (a + 1) b) (W, S) ∧ 0 ≤ W ∧ W ≤ 2000000 := by
  induction d with
  | zero =>
    intro b w s h0 h1 hd h2 h3 h4 h5
    refine ⟨w, s, Ev.step (f := fun _ => some w) (fun k => ?_) (Ev.now _), Ev.step (f := fun _ => some (w, s)) (fun k => ?_) (Ev.now _), h2, h3⟩
    · simp only [spec_stWorst.l0]; rw [if_neg (by omega)]
    · simp only [impl_marked.l0]; rw [if_neg (by omega)]
  | succ d ih =>
    intro b w s h0 h1 hd h2 h3 h4 h5
    obtain ⟨x, x1, x2, x3⟩ := drops_both a (by omega) l hl hv b h0 (by omega)
    have hm : 0 ≤ mx w (x.length : Int) ∧ mx w (x.length : Int) ≤ 2000000 := by unfold mx; split <;> omega
    obtain ⟨W, S, y1, y2, y3, y4⟩ := ih (b + 1) (mx w (x.length : Int)) (s + x.length) (by omega) (by omega) (by omega) hm.1 hm.2 (by omega) (by omega)
    have e1 : wrap64 (b + 1) = b + 1 := wrap64_small (by omega) (by omega)
    have e2 : wrap64 (s + (x.length : Int)) = s + x.length := wrap64_small (by omega) (by omega)
    refine ⟨W, S, Ev.step (f := fun k => (spec_stDrops.f k a l b).bind fun t => ((spec_l1Most.f w (t.length : Int)).bind fun u => (spec_stWorst.l0 k a l u (wrap64 (b + 1))))) (fun k => ?_) (Ev.bind x1 ?_), Ev.step (f := fun k => (impl_markDrops.f k a l b).bind fun t => (impl_marked.l0 k a l (mx w (t.length : Int)) (wrap64 (s + (t.length : Int))) (a + 1) (wrap64 (b + 1)))) (fun k => ?_) (Ev.bind x2 ?_), y3, y4⟩
    · simp only [spec_stWorst.l0]; rw [if_pos (by omega)]
    · rw [l1Most_some, e1]; exact Ev.congr (fun k => Option.bind_some _ _) y1
    · simp only [impl_marked.l0]; rw [if_pos (by omega)]
    · rw [e1, e2]; exact y2
theorem worst_ev (a : Int) (ha0 : 0 ≤ a) (ha : a ≤ 100) (l : List Int) (hl : l.length ≤ 1000000) (hv : ∀ j : Int, 0 ≤ j → j < l.length → 1 ≤ rd l j ∧ rd l j ≤ 1000) :
    ∃ W S : Int, Ev (fun k => spec_stWorst.f k a l) W ∧ Ev (fun k => impl_marked.f k a l) (W, S) ∧ 0 ≤ W ∧ W ≤ 2000000 := by
  obtain ⟨W, S, h1, h2, h3, h4⟩ := worst_both a ha l hl hv (a + 1).toNat 0 0 0 (by omega) (by omega) (by omega) (by omega) (by omega) (by omega) (by omega)
  refine ⟨W, S, h1, Ev.congr (f := fun k => impl_marked.l0 k a l 0 0 (a + 1) 0) (fun k => ?_) h2, h3, h4⟩
  unfold impl_marked.f
  rw [wrap64_small (x := a + 1) (by omega) (by omega)]
theorem FnExactWorstOfMarks : laws_FnExactWorstOfMarks.Pure := by
  intro a0 l1 _ _ _ _
  by_cases hle : (l1.length : Int) > 1000000
  · apply Ev.rounds
    unfold laws_FnExactWorstOfMarks.f
    exact Ev.congr (fun k => if_pos hle) (Ev.now _)
  · obtain ⟨r, hi, hs, hp⟩ := good_ev a0 l1 (by omega)
    by_cases hr : r = true
    · subst hr
      obtain ⟨ha, hv⟩ := hp rfl
      obtain ⟨W, S, h1, h2, _, _⟩ := worst_ev a0 ha.1 ha.2 l1 (by omega) (fun j h4 h5 => by have := hv j h4 h5; omega)
      refine law_of a0 l1 (by omega) W true ?_ ?_
      · exact Ev.congr (f := fun k => (spec_stGood.f k a0 l1).bind fun t => (if t = true then ((spec_stWorst.f k a0 l1).bind fun t => (some (t, true))) else (some (0, false)))) (fun k => rfl) (Ev.bind hs (Ev.congr (fun k => if_pos rfl) (Ev.bind h1 (Ev.now _))))
      · exact Ev.congr (f := fun k => (impl_AreMarks.f k a0 l1).bind fun t => (if t = true then ((impl_marked.f k a0 l1).bind fun bt => (some (bt.1, true))) else (some (0, false)))) (fun k => rfl) (Ev.bind hi (Ev.congr (fun k => if_pos rfl) (Ev.bind h2 (Ev.now _))))
    · obtain rfl : r = false := by simpa using hr
      refine law_of a0 l1 (by omega) 0 false ?_ ?_
      · exact Ev.congr (f := fun k => (spec_stGood.f k a0 l1).bind fun t => (if t = true then ((spec_stWorst.f k a0 l1).bind fun t => (some (t, true))) else (some (0, false)))) (fun k => rfl) (Ev.bind hs (Ev.congr (fun k => if_ff _ _) (Ev.now _)))
      · exact Ev.congr (f := fun k => (impl_AreMarks.f k a0 l1).bind fun t => (if t = true then ((impl_marked.f k a0 l1).bind fun bt => (some (bt.1, true))) else (some (0, false)))) (fun k => rfl) (Ev.bind hi (Ev.congr (fun k => if_ff _ _) (Ev.now _)))

end Go.Proofs.Ythmmjbhilnldeaa.Pure
