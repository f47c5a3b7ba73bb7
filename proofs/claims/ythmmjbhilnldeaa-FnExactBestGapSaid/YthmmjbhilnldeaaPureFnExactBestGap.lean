/- The program's BestGap answers as the reference's does, for every floors; no conditions. -/
import Derived.Test.YthmmjbhilnldeaaQFnExactBestGapx2
namespace Go.Proofs.Ythmmjbhilnldeaa.Pure
open Go.RowKit Go.Proofs.Ythmmjbhilnldeaa.QFnExactBestGap Go.Proofs.YthmmjbhilnldeaaW.PrintWords Go.Proofs.YthmmjbhilnldeaaW.PrintLast
set_option linter.unusedVariables false

theorem wrap64_small {x : Int} (h0 : -9223372036854775808 ≤ x) (h1 : x < 9223372036854775808) : wrap64 x = x := by
  unfold wrap64; omega
theorem l1In_some (a b c : Int) : spec_l1In.f a b c = some (decide (b ≤ a ∧ a ≤ c)) := by
  unfold spec_l1In.f
  by_cases h : a ≥ b
  · rw [if_pos h]; congr 1; rw [Bool.eq_iff_iff]; simp; omega
  · rw [if_neg h]; congr 1; symm; rw [decide_eq_false_iff_not]; omega
theorem l1In_yes {a b c : Int} (h : b ≤ a ∧ a ≤ c) : spec_l1In.f a b c = some true := by rw [l1In_some, decide_eq_true h]
theorem l1In_no {a b c : Int} (h : ¬ (b ≤ a ∧ a ≤ c)) : spec_l1In.f a b c = some false := by rw [l1In_some, decide_eq_false h]
theorem if_ff {α : Type} (x y : α) : (if false = true then x else y) = y := if_neg (by decide)

theorem within_some (a b c : Int) : impl_within.f a b c = some (decide (b ≤ a ∧ a ≤ c)) := by
  unfold impl_within.f
  by_cases h : a ≥ b
  · rw [if_pos h]; congr 1; rw [Bool.eq_iff_iff]; simp; omega
  · rw [if_neg h]; congr 1; symm; rw [decide_eq_false_iff_not]; omega
theorem within_yes {a b c : Int} (h : b ≤ a ∧ a ≤ c) : impl_within.f a b c = some true := by rw [within_some, decide_eq_true h]
theorem within_no {a b c : Int} (h : ¬ (b ≤ a ∧ a ≤ c)) : impl_within.f a b c = some false := by rw [within_some, decide_eq_false h]

/-- What lies behind the marks: floor by floor, in both texts. -/
theorem tail_both (b m : Int) (hb0 : 0 ≤ b) (hb : b ≤ 1000) (hm : m ≤ 1000) (d : Nat) : ∀ (x : List S65) (f : Int), 0 ≤ f → f ≤ b + 1 → b + 2 - f = d → x.length + d ≤ 100000000 →
    ∃ r : List S65, Ev (fun k => spec_stDrops.l1 k b x m f) r ∧ Ev (fun k => impl_markDrops.l1 k b x m f) r ∧ r.length ≤ x.length + d := by
  induction d with
  | zero => intro x f h0 h1 hd _; exact absurd hd (by omega)
  | succ d ih =>
    intro x f h0 h1 hd hx
    have e1 : wrap64 (f + 1) = f + 1 := wrap64_small (by omega) (by omega)
    have e2 : wrap64 (b + 1) = b + 1 := wrap64_small (by omega) (by omega)
    by_cases hf : f ≤ m
    · by_cases hc : f > b
      · have hfb : f = b + 1 := by omega
        refine ⟨x ++ [⟨f, decide (f > b)⟩], Ev.step (f := fun _ => some (x ++ [⟨f, decide (f > b)⟩])) (fun k => ?_) (Ev.now _), Ev.step (f := fun k => impl_markDrops.l1 k b (x ++ [⟨f, decide (f > b)⟩]) m (f + 1)) (fun k => ?_) (Ev.step (f := fun _ => some (x ++ [⟨f, decide (f > b)⟩])) (fun k => ?_) (Ev.now _)), by simp⟩
        · simp only [spec_stDrops.l1]; rw [if_pos hf, if_pos (by omega), Option.bind_some, if_pos hc]
        · simp only [impl_markDrops.l1]; rw [if_pos hf, e2, if_pos (by omega), if_pos (by omega), e1]
        · simp only [impl_markDrops.l1]
          by_cases h2 : f + 1 ≤ m
          · rw [if_pos h2, e2, if_neg (by omega)]
          · rw [if_neg h2]
      · obtain ⟨r, h2, h3, h4⟩ := ih (x ++ [⟨f, decide (f > b)⟩]) (f + 1) (by omega) (by omega) (by omega) (by simp; omega)
        refine ⟨r, Ev.step (f := fun k => spec_stDrops.l1 k b (x ++ [⟨f, decide (f > b)⟩]) m (f + 1)) (fun k => ?_) h2, Ev.step (f := fun k => impl_markDrops.l1 k b (x ++ [⟨f, decide (f > b)⟩]) m (f + 1)) (fun k => ?_) h3, by simp at h4; omega⟩
        · simp only [spec_stDrops.l1]; rw [if_pos hf, if_pos (by omega), Option.bind_some, if_neg hc, e1]
        · simp only [impl_markDrops.l1]; rw [if_pos hf, e2, if_pos (by omega), if_pos (by omega), e1]
    · refine ⟨x, Ev.step (f := fun _ => some x) (fun k => ?_) (Ev.now _), Ev.step (f := fun _ => some x) (fun k => ?_) (Ev.now _), by omega⟩
      · simp only [spec_stDrops.l1]; rw [if_neg hf]
      · simp only [impl_markDrops.l1]; rw [if_neg hf]
theorem marks_both (b : Int) (hb0 : 0 ≤ b) (hb : b ≤ 1000) (l : List Int) (hl : l.length ≤ 1000000) (hv : ∀ j : Int, 0 ≤ j → j < l.length → 1 ≤ rd l j ∧ rd l j ≤ 1000) (d : Nat) : ∀ (x : List S65) (least most i : Int), 0 ≤ least → least ≤ b → most ≤ 1000 → 0 ≤ i → i ≤ l.length → (l.length : Int) - i = d → (x.length : Int) ≤ i →
    ∃ r : List S65, Ev (fun k => spec_stDrops.l0 k b x least most l (l.length : Int) i) r ∧ Ev (fun k => impl_markDrops.l0 k b x least most l (l.length : Int) i) r ∧ r.length ≤ x.length + d + 1003 := by
  induction d with
  | zero =>
    intro x least most i h0 h1 h2 h3 h4 hd hx
    have e1 : wrap64 (least + 1) = least + 1 := wrap64_small (by omega) (by omega)
    obtain ⟨r, hs, hi, hr⟩ := tail_both b most hb0 hb h2 (b + 2 - (least + 1)).toNat x (least + 1) (by omega) (by omega) (by omega) (by omega)
    refine ⟨r, Ev.step (f := fun k => spec_stDrops.j1 k b x least most) (fun k => ?_) (Ev.step (f := fun k => spec_stDrops.l1 k b x most (least + 1)) (fun k => ?_) hs), Ev.step (f := fun k => impl_markDrops.j1 k b x least most) (fun k => ?_) (Ev.step (f := fun k => impl_markDrops.l1 k b x most (least + 1)) (fun k => ?_) hi), by omega⟩
    · simp only [spec_stDrops.l0]; rw [if_neg (by omega)]
    · simp only [spec_stDrops.j1]; rw [e1]
    · simp only [impl_markDrops.l0]; rw [if_neg (by omega)]
    · simp only [impl_markDrops.j1]; rw [e1]
  | succ d ih =>
    intro x least most i h0 h1 h2 h3 h4 hd hx
    have hlt : i < (l.length : Int) := by omega
    obtain ⟨v1, v2⟩ := hv i h3 hlt
    have e0 : wrap64 (i + 1) = i + 1 := wrap64_small (by omega) (by omega)
    generalize hV : rd l i = V at *
    by_cases hc : V > b
    · have e1 : wrap64 (least + 1) = least + 1 := wrap64_small (by omega) (by omega)
      have e2 : wrap64 (V - 1) = V - 1 := wrap64_small (by omega) (by omega)
      obtain ⟨r, hs, hi, hr⟩ := tail_both b (V - 1) hb0 hb (by omega) (b + 2 - (least + 1)).toNat (x ++ [⟨V, true⟩]) (least + 1) (by omega) (by omega) (by omega) (by simp; omega)
      refine ⟨r, Ev.step (f := fun k => spec_stDrops.j1 k b (x ++ [⟨V, true⟩]) least (V - 1)) (fun k => ?_) (Ev.step (f := fun k => spec_stDrops.l1 k b (x ++ [⟨V, true⟩]) (V - 1) (least + 1)) (fun k => ?_) hs), Ev.step (f := fun k => impl_markDrops.j1 k b (x ++ [⟨V, true⟩]) least (V - 1)) (fun k => ?_) (Ev.step (f := fun k => impl_markDrops.l1 k b (x ++ [⟨V, true⟩]) (V - 1) (least + 1)) (fun k => ?_) hi), by simp at hr; omega⟩
      · simp only [spec_stDrops.l0]; rw [if_pos hlt, if_pos h3, if_pos hlt, if_pos (by omega), hV, Option.bind_some, if_pos hc, e2, decide_eq_true hc]
      · simp only [spec_stDrops.j1]; rw [e1]
      · simp only [impl_markDrops.l0]; rw [if_pos hlt, if_pos h3, if_pos hlt, hV, if_pos hc, if_pos (by omega), e2]
      · simp only [impl_markDrops.j1]; rw [e1]
    · obtain ⟨r, hs, hi, hr⟩ := ih (x ++ [⟨V, false⟩]) V most (i + 1) (by omega) (by omega) h2 (by omega) (by omega) (by omega) (by simp; omega)
      refine ⟨r, Ev.step (f := fun k => spec_stDrops.l0 k b (x ++ [⟨V, false⟩]) V most l (l.length : Int) (i + 1)) (fun k => ?_) hs, Ev.step (f := fun k => impl_markDrops.l0 k b (x ++ [⟨V, false⟩]) V most l (l.length : Int) (i + 1)) (fun k => ?_) hi, by simp at hr; omega⟩
      · simp only [spec_stDrops.l0]; rw [if_pos hlt, if_pos h3, if_pos hlt, if_pos (by omega), hV, Option.bind_some, if_neg hc, e0, decide_eq_false hc]
      · simp only [impl_markDrops.l0]; rw [if_pos hlt, if_pos h3, if_pos hlt, hV, if_neg hc, if_pos (by omega), e0]
theorem drops_both (a : Int) (ha : a ≤ 1000) (l : List Int) (hl : l.length ≤ 1000000) (hv : ∀ j : Int, 0 ≤ j → j < l.length → 1 ≤ rd l j ∧ rd l j ≤ 1000) (b : Int) (hb0 : 0 ≤ b) (hb : b ≤ 1000) :
    ∃ r : List S65, Ev (fun k => spec_stDrops.f k a l b) r ∧ Ev (fun k => impl_markDrops.f k a l b) r ∧ r.length ≤ 2000000 := by
  obtain ⟨r, hs, hi, hr⟩ := marks_both b hb0 hb l hl hv l.length [] 0 a 0 (by omega) hb0 ha (by omega) (by omega) (by omega) (by simp)
  exact ⟨r, hs, hi, by simp at hr; omega⟩

theorem l1Most_some (a b : Int) : spec_l1Most.f a b = some (mx a b) := by
  unfold spec_l1Most.f mx
  by_cases h : a > b
  · rw [if_pos h]; congr 1; split <;> omega
  · rw [if_neg h]; congr 1; split <;> omega
theorem worst_both (a : Int) (ha : a ≤ 100) (l : List Int) (hl : l.length ≤ 1000000) (hv : ∀ j : Int, 0 ≤ j → j < l.length → 1 ≤ rd l j ∧ rd l j ≤ 1000) (d : Nat) : ∀ (b w s : Int), 0 ≤ b → b ≤ a + 1 → a + 1 - b = d → 0 ≤ w → w ≤ 2000000 → 0 ≤ s → s ≤ 2000000 * b →
    ∃ W S : Int, Ev (fun k => spec_stWorst.l0 k a l w b) W ∧ Ev (fun k => impl_marked.l0 k a l w s (a + 1) b) (W, S) ∧ 0 ≤ W ∧ W ≤ 2000000 := by
  induction d with
  | zero =>
    intro b w s h0 h1 hd h2 h3 h4 h5
    refine ⟨w, s, Ev.step (f := fun _ => some w) (fun k => ?_) (Ev.now _), Ev.step (f := fun _ => some (w, s)) (fun k => ?_) (Ev.now _), h2, h3⟩
    · simp only [spec_stWorst.l0]; rw [if_neg (by omega)]
    · simp only [impl_marked.l0]; rw [if_neg (by omega)]
  | succ d ih =>
    intro b w s h0 h1 hd h2 h3 h4 h5
    obtain ⟨x, x1, x2, x3⟩ := drops_both a (by omega) l hl hv b h0 (by omega)
    have hm : 0 ≤ mx w (x.length : Int) ∧ mx w (x.length : Int) ≤ 2000000 := by unfold mx; split <;> omega
    obtain ⟨W, S, y1, y2, y3, y4⟩ := ih (b + 1) (mx w (x.length : Int)) (s + x.length) (by omega) (by omega) (by omega) hm.1 hm.2 (by omega) (by omega)
    have e1 : wrap64 (b + 1) = b + 1 := wrap64_small (by omega) (by omega)
    have e2 : wrap64 (s + (x.length : Int)) = s + x.length := wrap64_small (by omega) (by omega)
    refine ⟨W, S, Ev.step (f := fun k => (spec_stDrops.f k a l b).bind fun t => ((spec_l1Most.f w (t.length : Int)).bind fun u => (spec_stWorst.l0 k a l u (wrap64 (b + 1))))) (fun k => ?_) (Ev.bind x1 ?_), Ev.step (f := fun k => (impl_markDrops.f k a l b).bind fun t => (impl_marked.l0 k a l (mx w (t.length : Int)) (wrap64 (s + (t.length : Int))) (a + 1) (wrap64 (b + 1)))) (fun k => ?_) (Ev.bind x2 ?_), y3, y4⟩
    · simp only [spec_stWorst.l0]; rw [if_pos (by omega)]
    · rw [l1Most_some, e1]; exact Ev.congr (fun k => Option.bind_some _ _) y1
    · simp only [impl_marked.l0]; rw [if_pos (by omega)]
    · rw [e1, e2]; exact y2
theorem worst_ev (a : Int) (ha0 : 0 ≤ a) (ha : a ≤ 100) (l : List Int) (hl : l.length ≤ 1000000) (hv : ∀ j : Int, 0 ≤ j → j < l.length → 1 ≤ rd l j ∧ rd l j ≤ 1000) :
    ∃ W S : Int, Ev (fun k => spec_stWorst.f k a l) W ∧ Ev (fun k => impl_marked.f k a l) (W, S) ∧ 0 ≤ W ∧ W ≤ 2000000 := by
  obtain ⟨W, S, h1, h2, h3, h4⟩ := worst_both a ha l hl hv (a + 1).toNat 0 0 0 (by omega) (by omega) (by omega) (by omega) (by omega) (by omega) (by omega)
  refine ⟨W, S, h1, Ev.congr (f := fun k => impl_marked.l0 k a l 0 0 (a + 1) 0) (fun k => ?_) h2, h3, h4⟩
  unfold impl_marked.f
  rw [wrap64_small (x := a + 1) (by omega) (by omega)]
theorem even_same (k : Nat) : ∀ (a b : Int) (l : List Int) (m : Int), spec_stEven.l0 k a b l m = impl_evenMarks.l0 k a b l m := by
  induction k with
  | zero => intro a b l m; simp only [spec_stEven.l0, impl_evenMarks.l0]
  | succ k ih => intro a b l m; simp only [spec_stEven.l0, impl_evenMarks.l0, ih]
theorem rd_snoc (l : List Int) (v : Int) (j : Int) (h0 : 0 ≤ j) (h1 : j < (l ++ [v]).length) : rd (l ++ [v]) j = if j < l.length then rd l j else v := by
  unfold rd
  obtain ⟨n, rfl⟩ := Int.eq_ofNat_of_zero_le h0
  simp only [Int.toNat_natCast]
  by_cases h : n < l.length
  · rw [if_pos (by omega)]; simp [List.getElem?_append_left h]
  · rw [if_neg (by omega)]
    have : n = l.length := by simp at h1; omega
    subst this
    simp
theorem even_ends (a b : Int) (ha : a ≤ 100) (hb0 : 1 ≤ b) (hb1 : b ≤ 100) (d : Nat) : ∀ (l : List Int) (m : Int), 1 ≤ m → m ≤ 200 → a - m < d → l.length + d < 1000 → (∀ j : Int, 0 ≤ j → j < l.length → 1 ≤ rd l j ∧ rd l j ≤ 1000) →
    ∃ r, Ev (fun k => impl_evenMarks.l0 k a b l m) r ∧ r.length < 1000 ∧ ∀ j : Int, 0 ≤ j → j < r.length → 1 ≤ rd r j ∧ rd r j ≤ 1000 := by
  induction d with
  | zero =>
    intro l m h0 h1 hd hl hv
    exact ⟨l, Ev.step (f := fun _ => some l) (fun k => by simp only [impl_evenMarks.l0]; rw [if_neg (by omega)]) (Ev.now _), by omega, hv⟩
  | succ d ih =>
    intro l m h0 h1 hd hl hv
    by_cases h : m ≤ a
    · obtain ⟨r, hr, hr2, hr3⟩ := ih (l ++ [m]) (m + b) (by omega) (by omega) (by omega) (by simp; omega) (fun j h2 h3 => by
        rw [rd_snoc l m j h2 h3]
        split
        · exact hv j h2 (by assumption)
        · omega)
      exact ⟨r, Ev.step (f := fun k => impl_evenMarks.l0 k a b (l ++ [m]) (m + b)) (fun k => by simp only [impl_evenMarks.l0]; rw [if_pos h, if_pos (by omega), wrap64_small (by omega) (by omega)]) hr, hr2, hr3⟩
    · exact ⟨l, Ev.step (f := fun _ => some l) (fun k => by simp only [impl_evenMarks.l0]; rw [if_neg h]) (Ev.now _), by omega, hv⟩
/-- One gap: its marks, and their worst case in both texts. -/
theorem gap_both (a : Int) (ha0 : 0 ≤ a) (ha : a ≤ 100) (g : Int) (h0 : 1 ≤ g) (h1 : g ≤ 100) : ∃ (L : List Int) (W S : Int), Ev (fun k => spec_stEven.f k a g) L ∧ Ev (fun k => impl_evenMarks.f k a g) L ∧ Ev (fun k => spec_stWorst.f k a L) W ∧ Ev (fun k => impl_marked.f k a L) (W, S) ∧ 0 ≤ W ∧ W ≤ 2000000 := by
  obtain ⟨L, hL, hl, hv⟩ := even_ends a g ha h0 h1 200 [] g h0 (by omega) (by omega) (by simp) (fun j h2 h3 => by simp at h3; omega)
  obtain ⟨W, S, x1, x2, x3, x4⟩ := worst_ev a ha0 ha L (by omega) hv
  exact ⟨L, W, S, Ev.congr (fun k => even_same k a g [] g) hL, hL, x1, x2, x3, x4⟩
theorem gaps_both (a : Int) (ha0 : 0 ≤ a) (ha : a ≤ 100) (d : Nat) : ∀ (g best least : Int), 1 ≤ g → g ≤ 101 → 101 - g = d → ∃ B L : Int, Ev (fun k => spec_BestGap.l0 k a best least g) (B, L, true) ∧ Ev (fun k => impl_BestGap.l0 k a best least g) (B, L, true) := by
  induction d with
  | zero =>
    intro g best least h0 h1 hd
    refine ⟨best, least, Ev.step (f := fun _ => some (best, least, true)) (fun k => ?_) (Ev.now _), Ev.step (f := fun _ => some (best, least, true)) (fun k => ?_) (Ev.now _)⟩
    · simp only [spec_BestGap.l0]; rw [if_neg (by omega)]
    · simp only [impl_BestGap.l0]; rw [if_neg (by omega)]
  | succ d ih =>
    intro g best least h0 h1 hd
    obtain ⟨M, W, S, x1, x2, x3, x4, x5, x6⟩ := gap_both a ha0 ha g h0 (by omega)
    have e1 : wrap64 (g + 1) = g + 1 := wrap64_small (by omega) (by omega)
    have key : ∃ B L : Int, Ev (fun k => if W < least then (spec_BestGap.l0 k a g W (wrap64 (g + 1))) else (spec_BestGap.l0 k a best least (wrap64 (g + 1)))) (B, L, true) ∧ Ev (fun k => if W < least then (impl_BestGap.l0 k a g W (wrap64 (g + 1))) else (impl_BestGap.l0 k a best least (wrap64 (g + 1)))) (B, L, true) := by
      rw [e1]
      by_cases hc : W < least
      · obtain ⟨B, L, y1, y2⟩ := ih (g + 1) g W (by omega) (by omega) (by omega)
        exact ⟨B, L, Ev.congr (fun k => if_pos hc) y1, Ev.congr (fun k => if_pos hc) y2⟩
      · obtain ⟨B, L, y1, y2⟩ := ih (g + 1) best least (by omega) (by omega) (by omega)
        exact ⟨B, L, Ev.congr (fun k => if_neg hc) y1, Ev.congr (fun k => if_neg hc) y2⟩
    obtain ⟨B, L, y1, y2⟩ := key
    refine ⟨B, L, Ev.step (f := fun k => (spec_stEven.f k a g).bind fun t => ((spec_stWorst.f k a t).bind fun t => (if t < least then (spec_BestGap.l0 k a g t (wrap64 (g + 1))) else (spec_BestGap.l0 k a best least (wrap64 (g + 1)))))) (fun k => ?_) (Ev.bind x1 (Ev.bind x3 y1)),
      Ev.step (f := fun k => (impl_evenMarks.f k a g).bind fun t => ((impl_marked.f k a t).bind fun bt => (if bt.1 < least then (impl_BestGap.l0 k a g bt.1 (wrap64 (g + 1))) else (impl_BestGap.l0 k a best least (wrap64 (g + 1)))))) (fun k => ?_) (Ev.bind x2 (Ev.bind x4 y2))⟩
    · simp only [spec_BestGap.l0]; rw [if_pos (by omega)]
    · simp only [impl_BestGap.l0]; rw [if_pos (by omega)]
theorem law_of (a0 : Int) (p : Int × Int × Bool) (hs : Ev (fun k => spec_BestGap.f k a0) p) (hi : Ev (fun k => impl_BestGap.f k a0) p) : ∃ k, laws_FnExactBestGap.f k a0 = some true := by
  apply Ev.rounds
  unfold laws_FnExactBestGap.f
  refine Ev.bind hs ?_
  refine Ev.bind hi ?_
  refine Ev.congr (fun k => if_pos rfl) ?_
  refine Ev.congr (fun k => if_pos rfl) ?_
  exact Ev.congr (fun k => if_neg (by simp)) (Ev.now _)
theorem FnExactBestGap : laws_FnExactBestGap.Pure := by
  intro a0 _
  by_cases h : 0 ≤ a0 ∧ a0 ≤ 100
  · obtain ⟨M, W, S, x1, x2, x3, x4, x5, x6⟩ := gap_both a0 h.1 h.2 1 (by omega) (by omega)
    obtain ⟨B, L, y1, y2⟩ := gaps_both a0 h.1 h.2 99 2 1 W (by omega) (by omega) (by omega)
    refine law_of a0 (B, L, true) ?_ ?_
    · refine Ev.congr (f := fun k => (spec_stEven.f k a0 1).bind fun t => ((spec_stWorst.f k a0 t).bind fun t => (spec_BestGap.l0 k a0 1 t 2))) (fun k => ?_) (Ev.bind x1 (Ev.bind x3 y1))
      unfold spec_BestGap.f spec_stFloors.f
      rw [l1In_yes h, Option.bind_some, Option.bind_some, if_pos rfl]
    · refine Ev.congr (f := fun k => impl_BestGap.l0 k a0 0 1125899906842624 1) (fun k => ?_) ?_
      · unfold impl_BestGap.f impl_isMarked.f
        rw [within_yes h, Option.bind_some, Option.bind_some, if_pos rfl]
      · refine Ev.step (f := fun k => (impl_evenMarks.f k a0 1).bind fun t => ((impl_marked.f k a0 t).bind fun bt => (if bt.1 < 1125899906842624 then (impl_BestGap.l0 k a0 1 bt.1 (wrap64 (1 + 1))) else (impl_BestGap.l0 k a0 0 1125899906842624 (wrap64 (1 + 1)))))) (fun k => ?_) (Ev.bind x2 (Ev.bind x4 ?_))
        · simp only [impl_BestGap.l0]; rw [if_pos (by omega)]
        · refine Ev.congr (fun k => if_pos (show W < 1125899906842624 by omega)) ?_
          rw [show wrap64 ((1 : Int) + 1) = 2 by rw [wrap64_small (by omega) (by omega)]; rfl]; exact y2
  · refine law_of a0 (0, 0, false) ?_ ?_
    · refine Ev.congr (f := fun k => some (0, 0, false)) (fun k => ?_) (Ev.now _)
      unfold spec_BestGap.f spec_stFloors.f
      rw [l1In_no h, Option.bind_some, Option.bind_some, if_ff]
    · refine Ev.congr (f := fun k => some (0, 0, false)) (fun k => ?_) (Ev.now _)
      unfold impl_BestGap.f impl_isMarked.f
      rw [within_no h, Option.bind_some, Option.bind_some, if_ff]

end Go.Proofs.Ythmmjbhilnldeaa.Pure
