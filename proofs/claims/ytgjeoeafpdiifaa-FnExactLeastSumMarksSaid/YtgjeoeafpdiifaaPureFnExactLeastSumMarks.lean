/- The program's LeastSumMarks answers as the reference's does, in memory of its own, for every number of floors; no conditions. -/
import Derived.Test.YtgjeoeafpdiifaaQFnExactLeastSumMarksx4
namespace Go.Proofs.Ytgjeoeafpdiifaa.Pure
open Go.RowKit Go.Proofs.Ytgjeoeafpdiifaa.QFnExactLeastSumMarks Go.Proofs.YtgjeoeafpdiifaaW.PrintWords Go.Proofs.YtgjeoeafpdiifaaW.PrintLast Go.Proofs.YtgjeoeafpdiifaaW.PrintMore
set_option linter.unusedVariables false

theorem wrap64_small {x : Int} (h0 : -9223372036854775808 ≤ x) (h1 : x < 9223372036854775808) : wrap64 x = x := by
  unfold wrap64; omega
theorem l1In_some (a b c : Int) : spec_l1In.f a b c = some (decide (b ≤ a ∧ a ≤ c)) := by
  unfold spec_l1In.f
  by_cases h : a ≥ b
  · rw [if_pos h]; congr 1; rw [Bool.eq_iff_iff]; simp; omega
  · rw [if_neg h]; congr 1; symm; rw [decide_eq_false_iff_not]; omega
theorem l1In_yes {a b c : Int} (h : b ≤ a ∧ a ≤ c) : spec_l1In.f a b c = some true := by rw [l1In_some, decide_eq_true h]
theorem l1In_no {a b c : Int} (h : ¬ (b ≤ a ∧ a ≤ c)) : spec_l1In.f a b c = some false := by rw [l1In_some, decide_eq_false h]
theorem if_ff {α : Type} (x y : α) : (if false = true then x else y) = y := if_neg (by decide)

theorem rd_set (l : List Int) (i : Nat) (v : Int) (j : Int) (hj : 0 ≤ j) (hi : i < l.length) : rd (l.set i v) j = if j = (i : Int) then v else rd l j := by
  unfold rd
  by_cases h : j = (i : Int)
  · subst h
    simp [hi]
  · rw [if_neg h]
    have : i ≠ j.toNat := by omega
    simp [List.getD_eq_getElem?_getD, this]

theorem eqIntS_l0 (l : List Int) (hl : l.length < 1000000000000) (d : Nat) : ∀ (i : Int), 0 ≤ i → i ≤ l.length → (l.length : Int) - i = d → Ev (fun k => laws_eqIntS.l0 k l l i) true := by
  induction d with
  | zero =>
    intro i h0 h1 hd
    exact Ev.step (f := fun _ => some true) (fun k => by simp only [laws_eqIntS.l0]; rw [if_neg (by omega)]) (Ev.now _)
  | succ d ih =>
    intro i h0 h1 hd
    have hlt : i < (l.length : Int) := by omega
    have hw : wrap64 (i + 1) = i + 1 := wrap64_small (by omega) (by omega)
    exact Ev.step (f := fun k => laws_eqIntS.l0 k l l (i + 1)) (fun k => by simp only [laws_eqIntS.l0]; rw [if_pos hlt, if_pos h0, if_pos hlt, if_pos trivial, hw]) (ih (i + 1) (by omega) (by omega) (by omega))

theorem eqIntS_self (l : List Int) (hl : l.length < 1000000000000) : Ev (fun k => laws_eqIntS.f k l l) true :=
  Ev.congr (f := fun k => laws_eqIntS.l0 k l l 0) (fun k => by unfold laws_eqIntS.f; rw [if_pos rfl]) (eqIntS_l0 l hl l.length 0 (by omega) (by omega) (by omega))

theorem markIntS_l0 (n : Nat) (hn : n < 1000000000000) (a : Int) (ha0 : 0 ≤ a) (ha1 : a < 1000000000000) (d : Nat) : ∀ (x : List Int) (i : Int), x.length = n → 0 ≤ i → i ≤ n → (n : Int) - i = d → (∀ j : Int, 0 ≤ j → j < i → rd x j = a + j) →
    ∃ r, Ev (fun k => laws_markIntS.l0 k x (a + i) i) (a + n, r) ∧ r.length = n ∧ ∀ j : Int, 0 ≤ j → j < n → rd r j = a + j := by
  induction d with
  | zero =>
    intro x i hx h0 h1 hd hj
    have hi : i = n := by omega
    subst hi
    exact ⟨x, Ev.step (f := fun _ => some (a + n, x)) (fun k => by simp only [laws_markIntS.l0]; rw [if_neg (by omega)]) (Ev.now _), hx, hj⟩
  | succ d ih =>
    intro x i hx h0 h1 hd hj
    have hlt : i < (x.length : Int) := by omega
    have hw : wrap64 (i + 1) = i + 1 := wrap64_small (by omega) (by omega)
    have hw2 : wrap64 (a + i + 1) = a + (i + 1) := by rw [wrap64_small (by omega) (by omega)]; omega
    obtain ⟨r, hr, hl, hv⟩ := ih (x.set i.toNat (a + i)) (i + 1) (by simp [hx]) (by omega) (by omega) (by omega) (fun j h0j hji => by
      rw [rd_set _ _ _ _ h0j (by omega)]
      by_cases e : j = (i.toNat : Int)
      · rw [if_pos e]; omega
      · rw [if_neg e]; exact hj j h0j (by omega))
    exact ⟨r, Ev.step (f := fun k => laws_markIntS.l0 k (x.set i.toNat (a + i)) (a + (i + 1)) (i + 1)) (fun k => by simp only [laws_markIntS.l0]; rw [if_pos hlt, if_pos h0, hw, hw2]) hr, hl, hv⟩

theorem heldIntS_l0 (r : List Int) (hn : r.length < 1000000000000) (a : Int) (ha0 : 0 ≤ a) (ha1 : a < 1000000000000) (hv : ∀ j : Int, 0 ≤ j → j < r.length → rd r j = a + j) (d : Nat) : ∀ (i : Int), 0 ≤ i → i ≤ r.length → (r.length : Int) - i = d →
    Ev (fun k => laws_heldIntS.l0 k r (a + i) i) (a + r.length) := by
  induction d with
  | zero =>
    intro i h0 h1 hd
    have hi : i = r.length := by omega
    subst hi
    exact Ev.step (f := fun _ => some (a + r.length)) (fun k => by simp only [laws_heldIntS.l0]; rw [if_neg (by omega)]) (Ev.now _)
  | succ d ih =>
    intro i h0 h1 hd
    have hlt : i < (r.length : Int) := by omega
    have hw : wrap64 (i + 1) = i + 1 := wrap64_small (by omega) (by omega)
    have hw2 : wrap64 (a + i + 1) = a + (i + 1) := by rw [wrap64_small (by omega) (by omega)]; omega
    exact Ev.step (f := fun k => laws_heldIntS.l0 k r (a + (i + 1)) (i + 1)) (fun k => by simp only [laws_heldIntS.l0]; rw [if_pos hlt, if_pos h0, if_pos (hv i h0 hlt), hw, hw2]) (ih (i + 1) (by omega) (by omega) (by omega))

theorem mark_held (l : List Int) (hl : l.length < 1000000000) : ∃ r, Ev (fun k => laws_markIntS.f k l 101) (101 + (l.length : Int), r) ∧ Ev (fun k => laws_heldIntS.f k r 101) (101 + (l.length : Int)) ∧ r.length = l.length := by
  obtain ⟨r, h1, h2, h3⟩ := markIntS_l0 l.length (by omega) 101 (by omega) (by omega) l.length l 0 rfl (by omega) (by omega) (by omega) (fun j _ _ => by omega)
  refine ⟨r, h1, ?_, h2⟩
  have := heldIntS_l0 r (by omega) 101 (by omega) (by omega) (fun j h0 h1 => h3 j h0 (by omega)) r.length 0 (by omega) (by omega) (by omega)
  rw [h2] at this
  exact this

/-- What lies behind the marks: floor by floor, in both texts. -/
theorem tail_both (b m : Int) (hb0 : 0 ≤ b) (hb : b ≤ 1000) (hm : m ≤ 1000) (d : Nat) : ∀ (x : List S40) (f : Int), 0 ≤ f → f ≤ b + 1 → b + 2 - f = d → x.length + d ≤ 100000000 →
    ∃ r : List S40, Ev (fun k => spec_stDrops.l1 k b x m f) r ∧ Ev (fun k => impl_markDrops.l1 k b x m f) r ∧ r.length ≤ x.length + d := by
  induction d with
  | zero => intro x f h0 h1 hd _; exact absurd hd (by omega)
  | succ d ih =>
    intro x f h0 h1 hd hx
    have e1 : wrap64 (f + 1) = f + 1 := wrap64_small (by omega) (by omega)
    have e2 : wrap64 (b + 1) = b + 1 := wrap64_small (by omega) (by omega)
    by_cases hf : f ≤ m
    · by_cases hc : f > b
      · have hfb : f = b + 1 := by omega
        refine ⟨x ++ [⟨f, decide (f > b)⟩], Ev.step (f := fun _ => some (x ++ [⟨f, decide (f > b)⟩])) (fun k => ?_) (Ev.now _), Ev.step (f := fun k => impl_markDrops.l1 k b (x ++ [⟨f, decide (f > b)⟩]) m (f + 1)) (fun k => ?_) (Ev.step (f := fun _ => some (x ++ [⟨f, decide (f > b)⟩])) (fun k => ?_) (Ev.now _)), by simp⟩
        · simp only [spec_stDrops.l1]; rw [if_pos hf, if_pos (by omega), Option.bind_some, if_pos hc]
        · simp only [impl_markDrops.l1]; rw [if_pos hf, e2, if_pos (by omega), if_pos (by omega), e1]
        · simp only [impl_markDrops.l1]
          by_cases h2 : f + 1 ≤ m
          · rw [if_pos h2, e2, if_neg (by omega)]
          · rw [if_neg h2]
      · obtain ⟨r, h2, h3, h4⟩ := ih (x ++ [⟨f, decide (f > b)⟩]) (f + 1) (by omega) (by omega) (by omega) (by simp; omega)
        refine ⟨r, Ev.step (f := fun k => spec_stDrops.l1 k b (x ++ [⟨f, decide (f > b)⟩]) m (f + 1)) (fun k => ?_) h2, Ev.step (f := fun k => impl_markDrops.l1 k b (x ++ [⟨f, decide (f > b)⟩]) m (f + 1)) (fun k => ?_) h3, by simp at h4; omega⟩
        · simp only [spec_stDrops.l1]; rw [if_pos hf, if_pos (by omega), Option.bind_some, if_neg hc, e1]
        · simp only [impl_markDrops.l1]; rw [if_pos hf, e2, if_pos (by omega), if_pos (by omega), e1]
    · refine ⟨x, Ev.step (f := fun _ => some x) (fun k => ?_) (Ev.now _), Ev.step (f := fun _ => some x) (fun k => ?_) (Ev.now _), by omega⟩
      · simp only [spec_stDrops.l1]; rw [if_neg hf]
      · simp only [impl_markDrops.l1]; rw [if_neg hf]
theorem marks_both (b : Int) (hb0 : 0 ≤ b) (hb : b ≤ 1000) (l : List Int) (hl : l.length ≤ 1000000) (hv : ∀ j : Int, 0 ≤ j → j < l.length → 1 ≤ rd l j ∧ rd l j ≤ 1000) (d : Nat) : ∀ (x : List S40) (least most i : Int), 0 ≤ least → least ≤ b → most ≤ 1000 → 0 ≤ i → i ≤ l.length → (l.length : Int) - i = d → (x.length : Int) ≤ i →
    ∃ r : List S40, Ev (fun k => spec_stDrops.l0 k b x least most l (l.length : Int) i) r ∧ Ev (fun k => impl_markDrops.l0 k b x least most l (l.length : Int) i) r ∧ r.length ≤ x.length + d + 1003 := by
  induction d with
  | zero =>
    intro x least most i h0 h1 h2 h3 h4 hd hx
    have e1 : wrap64 (least + 1) = least + 1 := wrap64_small (by omega) (by omega)
    obtain ⟨r, hs, hi, hr⟩ := tail_both b most hb0 hb h2 (b + 2 - (least + 1)).toNat x (least + 1) (by omega) (by omega) (by omega) (by omega)
    refine ⟨r, Ev.step (f := fun k => spec_stDrops.j1 k b x least most) (fun k => ?_) (Ev.step (f := fun k => spec_stDrops.l1 k b x most (least + 1)) (fun k => ?_) hs), Ev.step (f := fun k => impl_markDrops.j1 k b x least most) (fun k => ?_) (Ev.step (f := fun k => impl_markDrops.l1 k b x most (least + 1)) (fun k => ?_) hi), by omega⟩
    · simp only [spec_stDrops.l0]; rw [if_neg (by omega)]
    · simp only [spec_stDrops.j1]; rw [e1]
    · simp only [impl_markDrops.l0]; rw [if_neg (by omega)]
    · simp only [impl_markDrops.j1]; rw [e1]
  | succ d ih =>
    intro x least most i h0 h1 h2 h3 h4 hd hx
    have hlt : i < (l.length : Int) := by omega
    obtain ⟨v1, v2⟩ := hv i h3 hlt
    have e0 : wrap64 (i + 1) = i + 1 := wrap64_small (by omega) (by omega)
    generalize hV : rd l i = V at *
    by_cases hc : V > b
    · have e1 : wrap64 (least + 1) = least + 1 := wrap64_small (by omega) (by omega)
      have e2 : wrap64 (V - 1) = V - 1 := wrap64_small (by omega) (by omega)
      obtain ⟨r, hs, hi, hr⟩ := tail_both b (V - 1) hb0 hb (by omega) (b + 2 - (least + 1)).toNat (x ++ [⟨V, true⟩]) (least + 1) (by omega) (by omega) (by omega) (by simp; omega)
      refine ⟨r, Ev.step (f := fun k => spec_stDrops.j1 k b (x ++ [⟨V, true⟩]) least (V - 1)) (fun k => ?_) (Ev.step (f := fun k => spec_stDrops.l1 k b (x ++ [⟨V, true⟩]) (V - 1) (least + 1)) (fun k => ?_) hs), Ev.step (f := fun k => impl_markDrops.j1 k b (x ++ [⟨V, true⟩]) least (V - 1)) (fun k => ?_) (Ev.step (f := fun k => impl_markDrops.l1 k b (x ++ [⟨V, true⟩]) (V - 1) (least + 1)) (fun k => ?_) hi), by simp at hr; omega⟩
      · simp only [spec_stDrops.l0]; rw [if_pos hlt, if_pos h3, if_pos hlt, if_pos (by omega), hV, Option.bind_some, if_pos hc, e2, decide_eq_true hc]
      · simp only [spec_stDrops.j1]; rw [e1]
      · simp only [impl_markDrops.l0]; rw [if_pos hlt, if_pos h3, if_pos hlt, hV, if_pos hc, if_pos (by omega), e2]
      · simp only [impl_markDrops.j1]; rw [e1]
    · obtain ⟨r, hs, hi, hr⟩ := ih (x ++ [⟨V, false⟩]) V most (i + 1) (by omega) (by omega) h2 (by omega) (by omega) (by omega) (by simp; omega)
      refine ⟨r, Ev.step (f := fun k => spec_stDrops.l0 k b (x ++ [⟨V, false⟩]) V most l (l.length : Int) (i + 1)) (fun k => ?_) hs, Ev.step (f := fun k => impl_markDrops.l0 k b (x ++ [⟨V, false⟩]) V most l (l.length : Int) (i + 1)) (fun k => ?_) hi, by simp at hr; omega⟩
      · simp only [spec_stDrops.l0]; rw [if_pos hlt, if_pos h3, if_pos hlt, if_pos (by omega), hV, Option.bind_some, if_neg hc, e0, decide_eq_false hc]
      · simp only [impl_markDrops.l0]; rw [if_pos hlt, if_pos h3, if_pos hlt, hV, if_neg hc, if_pos (by omega), e0]
theorem drops_both (a : Int) (ha : a ≤ 1000) (l : List Int) (hl : l.length ≤ 1000000) (hv : ∀ j : Int, 0 ≤ j → j < l.length → 1 ≤ rd l j ∧ rd l j ≤ 1000) (b : Int) (hb0 : 0 ≤ b) (hb : b ≤ 1000) :
    ∃ r : List S40, Ev (fun k => spec_stDrops.f k a l b) r ∧ Ev (fun k => impl_markDrops.f k a l b) r ∧ r.length ≤ 2000000 := by
  obtain ⟨r, hs, hi, hr⟩ := marks_both b hb0 hb l hl hv l.length [] 0 a 0 (by omega) hb0 ha (by omega) (by omega) (by omega) (by simp)
  exact ⟨r, hs, hi, by simp at hr; omega⟩

theorem sum_both (a : Int) (ha : a ≤ 100) (l : List Int) (hl : l.length ≤ 1000000) (hv : ∀ j : Int, 0 ≤ j → j < l.length → 1 ≤ rd l j ∧ rd l j ≤ 1000) (d : Nat) : ∀ (b w s : Int), 0 ≤ b → b ≤ a + 1 → a + 1 - b = d → 0 ≤ w → w ≤ 2000000 → 0 ≤ s → s ≤ 2000000 * b →
    ∃ W S : Int, Ev (fun k => spec_stSum.l0 k a l s b) S ∧ Ev (fun k => impl_marked.l0 k a l w s (a + 1) b) (W, S) ∧ 0 ≤ S ∧ S ≤ 2000000 * (a + 1) := by
  induction d with
  | zero =>
    intro b w s h0 h1 hd h2 h3 h4 h5
    refine ⟨w, s, Ev.step (f := fun _ => some s) (fun k => ?_) (Ev.now _), Ev.step (f := fun _ => some (w, s)) (fun k => ?_) (Ev.now _), h4, by omega⟩
    · simp only [spec_stSum.l0]; rw [if_neg (by omega)]
    · simp only [impl_marked.l0]; rw [if_neg (by omega)]
  | succ d ih =>
    intro b w s h0 h1 hd h2 h3 h4 h5
    obtain ⟨x, x1, x2, x3⟩ := drops_both a (by omega) l hl hv b h0 (by omega)
    have hm : 0 ≤ mx w (x.length : Int) ∧ mx w (x.length : Int) ≤ 2000000 := by unfold mx; split <;> omega
    obtain ⟨W, S, y1, y2, y3, y4⟩ := ih (b + 1) (mx w (x.length : Int)) (s + x.length) (by omega) (by omega) (by omega) hm.1 hm.2 (by omega) (by omega)
    have e1 : wrap64 (b + 1) = b + 1 := wrap64_small (by omega) (by omega)
    have e2 : wrap64 (s + (x.length : Int)) = s + x.length := wrap64_small (by omega) (by omega)
    refine ⟨W, S, Ev.step (f := fun k => (spec_stDrops.f k a l b).bind fun t => (spec_stSum.l0 k a l (wrap64 (s + (t.length : Int))) (wrap64 (b + 1)))) (fun k => ?_) (Ev.bind x1 ?_), Ev.step (f := fun k => (impl_markDrops.f k a l b).bind fun t => (impl_marked.l0 k a l (mx w (t.length : Int)) (wrap64 (s + (t.length : Int))) (a + 1) (wrap64 (b + 1)))) (fun k => ?_) (Ev.bind x2 ?_), y3, y4⟩
    · simp only [spec_stSum.l0]; rw [if_pos (by omega)]
    · rw [e1, e2]; exact y1
    · simp only [impl_marked.l0]; rw [if_pos (by omega)]
    · rw [e1, e2]; exact y2
/-- Marks of few floors. -/
def Good (x : List Int) : Prop := x.length ≤ 100 ∧ ∀ v ∈ x, 1 ≤ v ∧ v ≤ 1000
theorem sum_ev (a : Int) (ha0 : 0 ≤ a) (ha : a ≤ 14) (l : List Int) (hg : Good l) : ∃ W S : Int, Ev (fun k => spec_stSum.f k a l) S ∧ Ev (fun k => impl_marked.f k a l) (W, S) ∧ 0 ≤ S ∧ S ≤ 30000000 := by
  have hgl := hg.1
  have hv : ∀ j : Int, 0 ≤ j → j < l.length → 1 ≤ rd l j ∧ rd l j ≤ 1000 := fun j h0 h1 => by
    obtain ⟨n, rfl⟩ := Int.eq_ofNat_of_zero_le h0
    have hn : n < l.length := by omega
    have e : rd l (n : Int) = l[n] := by unfold rd; simp [hn]
    rw [e]
    exact hg.2 _ (List.getElem_mem hn)
  obtain ⟨W, S, h1, h2, h3, h4⟩ := sum_both a (by omega) l (by omega) hv (a + 1).toNat 0 0 0 (by omega) (by omega) (by omega) (by omega) (by omega) (by omega) (by omega)
  refine ⟨W, S, h1, Ev.congr (f := fun k => impl_marked.l0 k a l 0 0 (a + 1) 0) (fun k => ?_) h2, h3, by omega⟩
  unfold impl_marked.f
  rw [wrap64_small (x := a + 1) (by omega) (by omega)]
theorem step_ev (a : Int) (l : List Int) (W S : Int) (h : Ev (fun k => impl_marked.f k a l) (W, S)) (b : List Int) (s : Int) : Ev (fun k => lsStep k a (b, s) l) (if S < s then (l, S) else (b, s)) := by
  refine Ev.bind h ?_
  by_cases c : S < s
  · refine Ev.congr (fun k => if_pos c) ?_
    rw [if_pos c]; exact Ev.now _
  · refine Ev.congr (fun k => if_neg c) ?_
    rw [if_neg c]; exact Ev.now _
theorem rd_L1_nat (l : List (List Int)) (i : Nat) (h : i < l.length) : rd_L1 l (i : Int) = l[i] := by unfold rd_L1; simp [h]
theorem loop_both (a : Int) (ha0 : 0 ≤ a) (ha : a ≤ 14) (L : List (List Int)) (hll : L.length ≤ 10000000) (hL : ∀ x ∈ L, Good x) (d : Nat) : ∀ i : Nat, i + d = L.length → ∀ (b : List Int) (s : Int), 0 ≤ s →
    ∃ (b2 : List Int) (s2 : Int), Ev (fun k => spec_LeastSumMarks.l0 k a b s L (L.length : Int) (i : Int)) (b2, s2, true) ∧ Ev (fun k => lsFold k a (b, s) (L.drop i)) (b2, s2) ∧ (b2 = b ∨ b2 ∈ L) := by
  induction d with
  | zero =>
    intro i hi b s h0
    refine ⟨b, s, Ev.step (f := fun _ => some (b, s, true)) (fun k => ?_) (Ev.now _), ?_, .inl rfl⟩
    · simp only [spec_LeastSumMarks.l0]; rw [if_neg (by omega)]
    · rw [List.drop_eq_nil_of_le (by omega)]; exact Ev.now _
  | succ d ih =>
    intro i hi b s h0
    have hlt : i < L.length := by omega
    obtain ⟨W, S, h1, h2, h3, h4⟩ := sum_ev a ha0 ha L[i] (hL _ (List.getElem_mem hlt))
    have hw : wrap64 ((i : Int) + 1) = ((i + 1 : Nat) : Int) := wrap64_small (by omega) (by omega)
    have hst := step_ev a L[i] W S h2 b s
    rw [List.drop_eq_getElem_cons hlt]
    by_cases c : S < s
    · rw [if_pos c] at hst
      obtain ⟨b2, s2, g1, g2, g3⟩ := ih (i + 1) (by omega) L[i] S h3
      refine ⟨b2, s2, Ev.step (f := fun k => (spec_stSum.f k a L[i]).bind fun t141 => (if s < 0 then (spec_LeastSumMarks.l0 k a L[i] t141 L (L.length : Int) ((i + 1 : Nat) : Int)) else (if t141 < s then (spec_LeastSumMarks.l0 k a L[i] t141 L (L.length : Int) ((i + 1 : Nat) : Int)) else (spec_LeastSumMarks.l0 k a b s L (L.length : Int) ((i + 1 : Nat) : Int))))) (fun k => ?_) (Ev.bind h1 (Ev.congr (fun k => if_neg (by omega)) (Ev.congr (fun k => if_pos c) g1))), Ev.bind hst g2, ?_⟩
      · simp only [spec_LeastSumMarks.l0]
        rw [if_pos (by omega), if_pos (by omega), if_pos (by omega), rd_L1_nat L i hlt, hw]
      · rcases g3 with rfl | g3
        · exact .inr (List.getElem_mem hlt)
        · exact .inr g3
    · rw [if_neg c] at hst
      obtain ⟨b2, s2, g1, g2, g3⟩ := ih (i + 1) (by omega) b s h0
      refine ⟨b2, s2, Ev.step (f := fun k => (spec_stSum.f k a L[i]).bind fun t141 => (if s < 0 then (spec_LeastSumMarks.l0 k a L[i] t141 L (L.length : Int) ((i + 1 : Nat) : Int)) else (if t141 < s then (spec_LeastSumMarks.l0 k a L[i] t141 L (L.length : Int) ((i + 1 : Nat) : Int)) else (spec_LeastSumMarks.l0 k a b s L (L.length : Int) ((i + 1 : Nat) : Int))))) (fun k => ?_) (Ev.bind h1 (Ev.congr (fun k => if_neg (by omega)) (Ev.congr (fun k => if_neg c) g1))), Ev.bind hst g2, g3⟩
      simp only [spec_LeastSumMarks.l0]
      rw [if_pos (by omega), if_pos (by omega), if_pos (by omega), rd_L1_nat L i hlt, hw]
theorem restM_len (d : Nat) : ∀ (l : List Int) (m : Int), (restM d l m).length + 1 = 2 ^ d := by
  induction d with
  | zero => intro l m; rfl
  | succ d ih =>
    intro l m
    have h1 := ih (l ++ [m]) (m + 1)
    have h2 := ih l (m + 1)
    unfold restM
    rw [List.length_cons, List.length_append, Nat.pow_succ]
    omega
theorem restM_good (d : Nat) : ∀ (l : List Int) (m : Int), (∀ v ∈ l, 1 ≤ v ∧ v ≤ 1000) → 1 ≤ m → m + d ≤ 1000 → ∀ x ∈ restM d l m, x.length ≤ l.length + d ∧ ∀ v ∈ x, 1 ≤ v ∧ v ≤ 1000 := by
  induction d with
  | zero => intro l m _ _ _ x hx; exact absurd hx (by unfold restM; simp)
  | succ d ih =>
    intro l m hv hm hd x hx
    have hv2 : ∀ v ∈ l ++ [m], 1 ≤ v ∧ v ≤ 1000 := by
      intro v h
      rcases List.mem_append.1 h with h | h
      · exact hv v h
      · rw [List.mem_singleton] at h; omega
    unfold restM at hx
    rcases List.mem_cons.1 hx with rfl | hx
    · exact ⟨by rw [List.length_append, List.length_singleton]; omega, hv2⟩
    · rcases List.mem_append.1 hx with hx | hx
      · have h1 := ih (l ++ [m]) (m + 1) hv2 (by omega) (by omega) x hx
        exact ⟨by have := h1.1; rw [List.length_append, List.length_singleton] at this; omega, h1.2⟩
      · have h1 := ih l (m + 1) hv (by omega) (by omega) x hx
        exact ⟨by omega, h1.2⟩
theorem own_some (l : List Int) (h : l.length ≤ 1000) : spec_l1Own.f l = some l := by
  unfold spec_l1Own.f
  rw [Option.bind_some, if_pos (by simp; omega), List.nil_append]
theorem stAll_ev (a : Int) (ha0 : 0 ≤ a) (ha : a ≤ 14) (d : Nat) : ∀ (l : List Int) (m : Int), 1 ≤ m → (d : Int) = a + 1 - m → ((l = [] ∧ m = 1) ∨ (l ≠ [] ∧ rd l ((l.length : Int) - 1) + 1 = m)) → l.length + d ≤ 100 → Ev (fun k => spec_stAll.f k a l) (l :: restM d l m) := by
  induction d using Nat.strongRecOn with
  | _ d ih =>
  intro l m hm hd hlast hlen
  have hown := own_some l (by omega)
  have loop : ∀ (e : Nat) (i : Int) (out : List (List Int)), (e : Int) = a + 1 - i → m ≤ i → out.length + 2 ^ e ≤ 1048576 → Ev (fun k => spec_stAll.l0 k a l out i) (out ++ restM e l i) := by
    intro e
    induction e with
    | zero =>
      intro i out he hmi _
      rw [show restM 0 l i = [] from rfl, List.append_nil]
      refine Ev.step (f := fun _ => some out) (fun k => ?_) (Ev.now _)
      simp only [spec_stAll.l0]; rw [if_neg (by omega)]
    | succ e ihe =>
      intro i out he hmi hout
      have hp : 2 ^ (e + 1) = 2 ^ e * 2 := Nat.pow_succ ..
      have hrl := restM_len e (l ++ [i]) (i + 1)
      have hw : wrap64 (i + 1) = i + 1 := wrap64_small (by omega) (by omega)
      have hsub := ih e (by omega) (l ++ [i]) (i + 1) (by omega) (by omega) (.inr ⟨by simp, by
        rw [List.length_append, List.length_singleton]
        unfold rd
        rw [show (((l.length + 1 : Nat) : Int) - 1).toNat = l.length by omega]
        simp⟩) (by rw [List.length_append, List.length_singleton]; omega)
      have hnext := ihe (i + 1) (out ++ ((l ++ [i]) :: restM e (l ++ [i]) (i + 1))) (by omega) (by omega) (by rw [List.length_append, List.length_cons]; omega)
      rw [show out ++ restM (e + 1) l i = out ++ ((l ++ [i]) :: restM e (l ++ [i]) (i + 1)) ++ restM e l (i + 1) by rw [show restM (e + 1) l i = (l ++ [i]) :: (restM e (l ++ [i]) (i + 1) ++ restM e l (i + 1)) from rfl, List.append_assoc, List.cons_append]]
      refine Ev.step (f := fun k => (spec_stAll.f k a (l ++ [i])).bind fun t120 => (if out.length + t120.length < 5864062014805 then (spec_stAll.l0 k a l (out ++ t120) (i + 1)) else (none))) (fun k => ?_) (Ev.bind hsub (Ev.congr (fun k => if_pos (by rw [List.length_cons]; omega)) hnext))
      simp only [spec_stAll.l0]
      rw [if_pos (by omega), hown, Option.bind_some, if_pos (by omega), hw]
  have hd15 : 2 ^ d ≤ 2 ^ 15 := Nat.pow_le_pow_right (by omega) (by omega)
  have h15 : (2 : Nat) ^ 15 = 32768 := by decide
  have hgo := loop d m [l] (by omega) (Int.le_refl _) (by rw [List.length_singleton]; omega)
  rcases hlast with ⟨hnil, hm1⟩ | ⟨hne, hlast⟩
  · refine Ev.step (f := fun k => spec_stAll.j0 k a l [l] 0) (fun k => ?_) (Ev.step (f := fun k => spec_stAll.l0 k a l [l] m) (fun k => ?_) hgo)
    · simp only [spec_stAll.f]
      rw [hown, Option.bind_some, Option.bind_some, if_neg (by rw [hnil]; simp)]
    · simp only [spec_stAll.j0]
      rw [show wrap64 (0 + 1) = m from (wrap64_small (by omega) (by omega)).trans (by omega)]
  · have hpos : 0 < l.length := List.length_pos_iff.2 hne
    have hw1 : wrap64 ((l.length : Int) - 1) = (l.length : Int) - 1 := wrap64_small (by omega) (by omega)
    refine Ev.step (f := fun k => spec_stAll.j0 k a l [l] (rd l ((l.length : Int) - 1))) (fun k => ?_) (Ev.step (f := fun k => spec_stAll.l0 k a l [l] m) (fun k => ?_) hgo)
    · simp only [spec_stAll.f]
      rw [hown, Option.bind_some, Option.bind_some, if_pos (by omega), hw1, if_pos (by omega), if_pos (by omega)]
    · simp only [spec_stAll.j0]
      rw [hlast, wrap64_small (by omega) (by omega)]
theorem least_both (a : Int) : ∃ r : List Int × Int × Bool, r.1.length ≤ 100 ∧ Ev (fun k => spec_LeastSumMarks.f k a) r ∧ Ev (fun k => impl_LeastSumMarks.f k a) r := by
  by_cases c : 0 ≤ a ∧ a ≤ 14
  · have hall := stAll_ev a c.1 c.2 a.toNat [] 1 (by omega) (by omega) (.inl ⟨rfl, rfl⟩) (by simp; omega)
    have hlen := restM_len a.toNat [] 1
    have hpw : 2 ^ a.toNat ≤ 2 ^ 15 := Nat.pow_le_pow_right (by omega) (by omega)
    have h15 : (2 : Nat) ^ 15 = 32768 := by decide
    have hgood : ∀ x ∈ ([] : List Int) :: restM a.toNat [] 1, Good x := by
      intro x hx
      rcases List.mem_cons.1 hx with rfl | hx
      · exact ⟨by simp, by simp⟩
      · have h1 := restM_good a.toNat [] 1 (by simp) (by omega) (by omega) x hx
        exact ⟨by have := h1.1; simp at this; omega, h1.2⟩
    obtain ⟨W, S, h1, h2, h3, h4⟩ := sum_ev a c.1 c.2 [] ⟨by simp, by simp⟩
    obtain ⟨b2, s2, g1, g2, g3⟩ := loop_both a c.1 c.2 ([] :: restM a.toNat [] 1) (by rw [List.length_cons]; omega) hgood (restM a.toNat [] 1).length 1 (by rw [List.length_cons]; omega) [] S h3
    have hst := step_ev a [] W S h2 [] 1125899906842624
    rw [if_pos (by omega)] at hst
    have hbl : b2.length ≤ 100 := by
      rcases g3 with rfl | g3
      · simp
      · exact (hgood b2 g3).1
    refine ⟨(b2, s2, true), hbl, ?_, ?_⟩
    · unfold spec_LeastSumMarks.f
      rw [l1In_yes c]
      refine Ev.congr (f := fun k => (spec_stAll.f k a ([] : List Int)).bind fun t137 => (spec_LeastSumMarks.l0 k a ([] : List Int) (-1) t137 (t137.length : Int) 0)) (fun k => by rw [Option.bind_some, if_pos rfl]) (Ev.bind hall ?_)
      refine Ev.step (f := fun k => (spec_stSum.f k a []).bind fun t141 => (if (-1 : Int) < 0 then (spec_LeastSumMarks.l0 k a [] t141 ([] :: restM a.toNat [] 1) ((([] : List Int) :: restM a.toNat [] 1).length : Int) ((1 : Nat) : Int)) else (none))) (fun k => ?_) (Ev.bind h1 (Ev.congr (fun k => if_pos (by omega)) g1))
      simp only [spec_LeastSumMarks.l0]
      rw [if_pos (by rw [List.length_cons]; omega), if_pos (by omega), if_pos (by rw [List.length_cons]; omega)]
      congr 1
      funext t
      rw [if_pos (by omega), if_pos (by omega), show wrap64 (0 + 1) = ((1 : Nat) : Int) from (wrap64_small (by omega) (by omega)).trans (by omega)]
      rfl
    · unfold impl_LeastSumMarks.f
      refine Ev.congr (fun k => if_pos c) (Ev.bind (a := (b2, s2)) (Ev.bind hst g2) (Ev.congr (fun k => if_pos hbl) (Ev.now _)))
  · refine ⟨([], 0, false), by simp, ?_, ?_⟩
    · unfold spec_LeastSumMarks.f
      rw [l1In_no c]
      exact Ev.congr (fun k => by rw [Option.bind_some, if_ff]) (Ev.now _)
    · unfold impl_LeastSumMarks.f
      exact Ev.congr (fun k => if_neg c) (Ev.now _)
theorem FnExactLeastSumMarks : laws_FnExactLeastSumMarks.Pure := by
  intro a0 _
  apply Ev.rounds
  unfold laws_FnExactLeastSumMarks.f
  obtain ⟨r, hrl, hs, hi⟩ := least_both a0
  obtain ⟨mr, hmk, hh, _⟩ := mark_held r.1 (by omega)
  have heq := eqIntS_self r.1 (by omega)
  refine Ev.bind hs ?_
  refine Ev.bind hi ?_
  refine Ev.bind heq ?_
  refine Ev.congr (fun k => if_pos rfl) ?_
  refine Ev.congr (fun k => if_pos rfl) ?_
  refine Ev.congr (fun k => if_neg (by simp)) ?_
  refine Ev.bind hmk ?_
  refine Ev.bind hh ?_
  refine Ev.congr (fun k => if_neg (by omega)) ?_
  refine Ev.congr (fun k => if_pos rfl) ?_
  refine Ev.bind hi ?_
  refine Ev.bind heq ?_
  refine Ev.congr (fun k => if_pos rfl) ?_
  refine Ev.congr (fun k => if_pos rfl) ?_
  refine Ev.congr (fun k => if_neg (by simp)) ?_
  refine Ev.bind hh ?_
  refine Ev.congr (fun k => if_neg (by omega)) ?_
  refine Ev.congr (fun k => if_pos rfl) ?_
  exact Ev.now _

end Go.Proofs.Ytgjeoeafpdiifaa.Pure
