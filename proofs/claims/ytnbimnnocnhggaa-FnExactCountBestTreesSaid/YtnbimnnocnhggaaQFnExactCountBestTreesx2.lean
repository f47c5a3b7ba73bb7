/- A text written by a program of this session for the law FnExactCountBestTrees: what each Go function that it reaches computes, and the proof that it does; no conditions beyond those stated. -/
import Derived.Test.YtnbimnnocnhggaaQFnExactCountBestTreesx0
import Derived.Test.YtnbimnnocnhggaaQFnExactCountBestTreesx1
namespace Go.Proofs.Ytnbimnnocnhggaa.QFnExactCountBestTrees
open Go.RowKit Go.Proofs.YtnbimnnocnhggaaW.PrintWords Go.Proofs.YtnbimnnocnhggaaW.PrintLast Go.Proofs.YtnbimnnocnhggaaW.PrintMore
attribute [local go_sem] max2_int min2_int max_two min_two max_three min_three max_four min_four   -- for this text's walks alone
set_option linter.unusedVariables false
set_option linter.unusedSimpArgs false

/-! ### spec_trCount: function 68 -/
mutual
def spec_trCount.l0 : Nat → Int → Int → Int → List Int → Int → Option (List Int)
  | 0, _, _, _, _, _ => none
  | k + 1, x0, x1, x2, x7, x8 => if x8 ≤ x1 then (if x7.length < 17592186044416 then (spec_trCount.l0 k x0 x1 x2 (x7 ++ [0]) (wrap64 (x8 + 1))) else (none)) else (if 0 < (x7.length : Int) then ((some (x7.set (0 : Int).toNat 1 : List Int)).bind fun y114 => (if x0 = 0 then (spec_trCount.j1 k x0 x1 x2 y114 true) else (spec_trCount.j1 k x0 x1 x2 y114 (x2 == 0)))) else (none))
def spec_trCount.j1 : Nat → Int → Int → Int → List Int → Bool → Option (List Int)
  | 0, _, _, _, _, _ => none
  | k + 1, x0, x1, x2, x7, x30 => if x30 = true then (some x7) else (if 0 ≤ (wrap64 (x0 + 1)) then (if (wrap64 (x0 + 1) : Int).toNat ≤ 11728124029610 then ((some (List.replicate (wrap64 (x0 + 1) : Int).toNat [] : List (List Int))).bind fun y115 => (spec_trCount.l1 k x0 x1 x2 y115 (y115.length : Int) 0)) else (none)) else (none))
def spec_trCount.l1 : Nat → Int → Int → Int → List (List Int) → Int → Int → Option (List Int)
  | 0, _, _, _, _, _, _ => none
  | k + 1, x0, x1, x2, x9, x36, x37 => if x37 < x36 then ((spec_trCount.f k 0 x1 0).bind fun t118 => (if 0 ≤ x37 then (if x37 < (x9.length : Int) then (spec_trCount.l1 k x0 x1 x2 (x9.set (x37 : Int).toNat t118) x36 (wrap64 (x37 + 1))) else (none)) else (none))) else (spec_trCount.l2 k x0 x1 x2 x9)
def spec_trCount.l2 : Nat → Int → Int → Int → List (List Int) → Option (List Int)
  | 0, _, _, _, _ => none
  | k + 1, x0, x1, x2, x9 => if x2 > 0 then (spec_trCount.l3 k x0 x1 x2 x9 x0) else (if 0 ≤ x0 then (if x0 < (x9.length : Int) then (some (rd_L1 x9 x0)) else (none)) else (none))
def spec_trCount.l3 : Nat → Int → Int → Int → List (List Int) → Int → Option (List Int)
  | 0, _, _, _, _, _ => none
  | k + 1, x0, x1, x2, x9, x11 => if x11 > 0 then (if 0 ≤ (wrap64 (x1 + 1)) then (if (wrap64 (x1 + 1) : Int).toNat ≤ 35184372088832 then ((some (List.replicate (wrap64 (x1 + 1) : Int).toNat 0 : List Int)).bind fun y123 => (if 0 < (y123.length : Int) then (spec_trCount.l4 k x0 x1 x2 x9 x11 (y123.set (0 : Int).toNat 1) 1) else (none))) else (none)) else (none)) else (spec_trCount.l2 k x0 x1 (wrap64 (x2 - 1)) x9)
def spec_trCount.l4 : Nat → Int → Int → Int → List (List Int) → Int → List Int → Int → Option (List Int)
  | 0, _, _, _, _, _, _, _ => none
  | k + 1, x0, x1, x2, x9, x11, x12, x13 => if x13 ≤ x1 then (spec_trCount.l5 k x0 x1 x2 x9 x11 x12 x13 0) else (if 0 ≤ x11 then (if x11 < (x9.length : Int) then (spec_trCount.l3 k x0 x1 x2 (x9.set (x11 : Int).toNat x12) (wrap64 (x11 - 1))) else (none)) else (none))
def spec_trCount.l5 : Nat → Int → Int → Int → List (List Int) → Int → List Int → Int → Int → Option (List Int)
  | 0, _, _, _, _, _, _, _, _ => none
  | k + 1, x0, x1, x2, x9, x11, x12, x13, x14 => if x14 < x13 then (if 0 ≤ x13 then (if x13 < (x12.length : Int) then (if 0 ≤ (wrap64 (x11 - 1)) then (if (wrap64 (x11 - 1)) < (x9.length : Int) then (if 0 ≤ x14 then (if x14 < ((rd_L1 x9 (wrap64 (x11 - 1))).length : Int) then (if 0 ≤ x11 then (if x11 < (x9.length : Int) then (if 0 ≤ (wrap64 ((wrap64 (x13 - 1)) - x14)) then (if (wrap64 ((wrap64 (x13 - 1)) - x14)) < ((rd_L1 x9 x11).length : Int) then ((spec_trSum.f (rd x12 x13) (rd (rd_L1 x9 (wrap64 (x11 - 1))) x14) (rd (rd_L1 x9 x11) (wrap64 ((wrap64 (x13 - 1)) - x14)))).bind fun t133 => (spec_trCount.l5 k x0 x1 x2 x9 x11 (x12.set (x13 : Int).toNat t133) x13 (wrap64 (x14 + 1)))) else (none)) else (none)) else (none)) else (none)) else (none)) else (none)) else (none)) else (none)) else (none)) else (none)) else (spec_trCount.l4 k x0 x1 x2 x9 x11 x12 (wrap64 (x13 + 1)))
def spec_trCount.f : Nat → Int → Int → Int → Option (List Int)
  | 0, _, _, _ => none
  | k + 1, a0, a1, a2 => spec_trCount.l0 k a0 a1 a2 ([] : List Int) 0
end
theorem spec_trCount.mono_l : ∀ k, (∀ y0 y1 y2, LeO (spec_trCount.f k y0 y1 y2) (spec_trCount.f (k + 1) y0 y1 y2)) ∧ (∀ y0 y1 y2 y3 y4, LeO (spec_trCount.l0 k y0 y1 y2 y3 y4) (spec_trCount.l0 (k + 1) y0 y1 y2 y3 y4)) ∧ (∀ y0 y1 y2 y3 y4, LeO (spec_trCount.j1 k y0 y1 y2 y3 y4) (spec_trCount.j1 (k + 1) y0 y1 y2 y3 y4)) ∧ (∀ y0 y1 y2 y3 y4 y5, LeO (spec_trCount.l1 k y0 y1 y2 y3 y4 y5) (spec_trCount.l1 (k + 1) y0 y1 y2 y3 y4 y5)) ∧ (∀ y0 y1 y2 y3, LeO (spec_trCount.l2 k y0 y1 y2 y3) (spec_trCount.l2 (k + 1) y0 y1 y2 y3)) ∧ (∀ y0 y1 y2 y3 y4, LeO (spec_trCount.l3 k y0 y1 y2 y3 y4) (spec_trCount.l3 (k + 1) y0 y1 y2 y3 y4)) ∧ (∀ y0 y1 y2 y3 y4 y5 y6, LeO (spec_trCount.l4 k y0 y1 y2 y3 y4 y5 y6) (spec_trCount.l4 (k + 1) y0 y1 y2 y3 y4 y5 y6)) ∧ (∀ y0 y1 y2 y3 y4 y5 y6 y7, LeO (spec_trCount.l5 k y0 y1 y2 y3 y4 y5 y6 y7) (spec_trCount.l5 (k + 1) y0 y1 y2 y3 y4 y5 y6 y7))
  | 0 => ⟨fun _ _ _ r h => by simp [spec_trCount.f] at h, fun _ _ _ _ _ r h => by simp [spec_trCount.l0] at h, fun _ _ _ _ _ r h => by simp [spec_trCount.j1] at h, fun _ _ _ _ _ _ r h => by simp [spec_trCount.l1] at h, fun _ _ _ _ r h => by simp [spec_trCount.l2] at h, fun _ _ _ _ _ r h => by simp [spec_trCount.l3] at h, fun _ _ _ _ _ _ _ r h => by simp [spec_trCount.l4] at h, fun _ _ _ _ _ _ _ _ r h => by simp [spec_trCount.l5] at h⟩
  | k + 1 => by
    obtain ⟨ih0, ih1, ih2, ih3, ih4, ih5, ih6, ih7⟩ := spec_trCount.mono_l k
    refine ⟨?_, ?_, ?_, ?_, ?_, ?_, ?_, ?_⟩
    · intro y0 y1 y2
      unfold spec_trCount.f
      repeat' first
      | (with_reducible exact ih0 _ _ _)
      | (with_reducible exact ih1 _ _ _ _ _)
      | (with_reducible exact ih2 _ _ _ _ _)
      | (with_reducible exact ih3 _ _ _ _ _ _)
      | (with_reducible exact ih4 _ _ _ _)
      | (with_reducible exact ih5 _ _ _ _ _)
      | (with_reducible exact ih6 _ _ _ _ _ _ _)
      | (with_reducible exact ih7 _ _ _ _ _ _ _ _)
      | (with_reducible exact LeO.refl _)
      | (with_reducible exact LeO.none _)
      | (with_reducible refine LeO.ite ?_ ?_)
      | (with_reducible refine LeO.bind ?_ (fun _ => ?_))
      | exact ih0 _ _ _
      | exact ih1 _ _ _ _ _
      | exact ih2 _ _ _ _ _
      | exact ih3 _ _ _ _ _ _
      | exact ih4 _ _ _ _
      | exact ih5 _ _ _ _ _
      | exact ih6 _ _ _ _ _ _ _
      | exact ih7 _ _ _ _ _ _ _ _
      | exact LeO.none _
      | refine LeO.ite ?_ ?_
      | refine LeO.bind ?_ (fun _ => ?_)
    · intro y0 y1 y2 y3 y4
      unfold spec_trCount.l0
      repeat' first
      | (with_reducible exact ih0 _ _ _)
      | (with_reducible exact ih1 _ _ _ _ _)
      | (with_reducible exact ih2 _ _ _ _ _)
      | (with_reducible exact ih3 _ _ _ _ _ _)
      | (with_reducible exact ih4 _ _ _ _)
      | (with_reducible exact ih5 _ _ _ _ _)
      | (with_reducible exact ih6 _ _ _ _ _ _ _)
      | (with_reducible exact ih7 _ _ _ _ _ _ _ _)
      | (with_reducible exact LeO.refl _)
      | (with_reducible exact LeO.none _)
      | (with_reducible refine LeO.ite ?_ ?_)
      | (with_reducible refine LeO.bind ?_ (fun _ => ?_))
      | exact ih0 _ _ _
      | exact ih1 _ _ _ _ _
      | exact ih2 _ _ _ _ _
      | exact ih3 _ _ _ _ _ _
      | exact ih4 _ _ _ _
      | exact ih5 _ _ _ _ _
      | exact ih6 _ _ _ _ _ _ _
      | exact ih7 _ _ _ _ _ _ _ _
      | exact LeO.none _
      | refine LeO.ite ?_ ?_
      | refine LeO.bind ?_ (fun _ => ?_)
    · intro y0 y1 y2 y3 y4
      unfold spec_trCount.j1
      repeat' first
      | (with_reducible exact ih0 _ _ _)
      | (with_reducible exact ih1 _ _ _ _ _)
      | (with_reducible exact ih2 _ _ _ _ _)
      | (with_reducible exact ih3 _ _ _ _ _ _)
      | (with_reducible exact ih4 _ _ _ _)
      | (with_reducible exact ih5 _ _ _ _ _)
      | (with_reducible exact ih6 _ _ _ _ _ _ _)
      | (with_reducible exact ih7 _ _ _ _ _ _ _ _)
      | (with_reducible exact LeO.refl _)
      | (with_reducible exact LeO.none _)
      | (with_reducible refine LeO.ite ?_ ?_)
      | (with_reducible refine LeO.bind ?_ (fun _ => ?_))
      | exact ih0 _ _ _
      | exact ih1 _ _ _ _ _
      | exact ih2 _ _ _ _ _
      | exact ih3 _ _ _ _ _ _
      | exact ih4 _ _ _ _
      | exact ih5 _ _ _ _ _
      | exact ih6 _ _ _ _ _ _ _
      | exact ih7 _ _ _ _ _ _ _ _
      | exact LeO.none _
      | refine LeO.ite ?_ ?_
      | refine LeO.bind ?_ (fun _ => ?_)
    · intro y0 y1 y2 y3 y4 y5
      unfold spec_trCount.l1
      repeat' first
      | (with_reducible exact ih0 _ _ _)
      | (with_reducible exact ih1 _ _ _ _ _)
      | (with_reducible exact ih2 _ _ _ _ _)
      | (with_reducible exact ih3 _ _ _ _ _ _)
      | (with_reducible exact ih4 _ _ _ _)
      | (with_reducible exact ih5 _ _ _ _ _)
      | (with_reducible exact ih6 _ _ _ _ _ _ _)
      | (with_reducible exact ih7 _ _ _ _ _ _ _ _)
      | (with_reducible exact LeO.refl _)
      | (with_reducible exact LeO.none _)
      | (with_reducible refine LeO.ite ?_ ?_)
      | (with_reducible refine LeO.bind ?_ (fun _ => ?_))
      | exact ih0 _ _ _
      | exact ih1 _ _ _ _ _
      | exact ih2 _ _ _ _ _
      | exact ih3 _ _ _ _ _ _
      | exact ih4 _ _ _ _
      | exact ih5 _ _ _ _ _
      | exact ih6 _ _ _ _ _ _ _
      | exact ih7 _ _ _ _ _ _ _ _
      | exact LeO.none _
      | refine LeO.ite ?_ ?_
      | refine LeO.bind ?_ (fun _ => ?_)
    · intro y0 y1 y2 y3
      unfold spec_trCount.l2
      repeat' first
      | (with_reducible exact ih0 _ _ _)
      | (with_reducible exact ih1 _ _ _ _ _)
      | (with_reducible exact ih2 _ _ _ _ _)
      | (with_reducible exact ih3 _ _ _ _ _ _)
      | (with_reducible exact ih4 _ _ _ _)
      | (with_reducible exact ih5 _ _ _ _ _)
      | (with_reducible exact ih6 _ _ _ _ _ _ _)
      | (with_reducible exact ih7 _ _ _ _ _ _ _ _)
      | (with_reducible exact LeO.refl _)
      | (with_reducible exact LeO.none _)
      | (with_reducible refine LeO.ite ?_ ?_)
      | (with_reducible refine LeO.bind ?_ (fun _ => ?_))
      | exact ih0 _ _ _
      | exact ih1 _ _ _ _ _
      | exact ih2 _ _ _ _ _
      | exact ih3 _ _ _ _ _ _
      | exact ih4 _ _ _ _
      | exact ih5 _ _ _ _ _
      | exact ih6 _ _ _ _ _ _ _
      | exact ih7 _ _ _ _ _ _ _ _
      | exact LeO.none _
      | refine LeO.ite ?_ ?_
      | refine LeO.bind ?_ (fun _ => ?_)
    · intro y0 y1 y2 y3 y4
      unfold spec_trCount.l3
      repeat' first
      | (with_reducible exact ih0 _ _ _)
      | (with_reducible exact ih1 _ _ _ _ _)
      | (with_reducible exact ih2 _ _ _ _ _)
      | (with_reducible exact ih3 _ _ _ _ _ _)
      | (with_reducible exact ih4 _ _ _ _)
      | (with_reducible exact ih5 _ _ _ _ _)
      | (with_reducible exact ih6 _ _ _ _ _ _ _)
      | (with_reducible exact ih7 _ _ _ _ _ _ _ _)
      | (with_reducible exact LeO.refl _)
      | (with_reducible exact LeO.none _)
      | (with_reducible refine LeO.ite ?_ ?_)
      | (with_reducible refine LeO.bind ?_ (fun _ => ?_))
      | exact ih0 _ _ _
      | exact ih1 _ _ _ _ _
      | exact ih2 _ _ _ _ _
      | exact ih3 _ _ _ _ _ _
      | exact ih4 _ _ _ _
      | exact ih5 _ _ _ _ _
      | exact ih6 _ _ _ _ _ _ _
      | exact ih7 _ _ _ _ _ _ _ _
      | exact LeO.none _
      | refine LeO.ite ?_ ?_
      | refine LeO.bind ?_ (fun _ => ?_)
    · intro y0 y1 y2 y3 y4 y5 y6
      unfold spec_trCount.l4
      repeat' first
      | (with_reducible exact ih0 _ _ _)
      | (with_reducible exact ih1 _ _ _ _ _)
      | (with_reducible exact ih2 _ _ _ _ _)
      | (with_reducible exact ih3 _ _ _ _ _ _)
      | (with_reducible exact ih4 _ _ _ _)
      | (with_reducible exact ih5 _ _ _ _ _)
      | (with_reducible exact ih6 _ _ _ _ _ _ _)
      | (with_reducible exact ih7 _ _ _ _ _ _ _ _)
      | (with_reducible exact LeO.refl _)
      | (with_reducible exact LeO.none _)
      | (with_reducible refine LeO.ite ?_ ?_)
      | (with_reducible refine LeO.bind ?_ (fun _ => ?_))
      | exact ih0 _ _ _
      | exact ih1 _ _ _ _ _
      | exact ih2 _ _ _ _ _
      | exact ih3 _ _ _ _ _ _
      | exact ih4 _ _ _ _
      | exact ih5 _ _ _ _ _
      | exact ih6 _ _ _ _ _ _ _
      | exact ih7 _ _ _ _ _ _ _ _
      | exact LeO.none _
      | refine LeO.ite ?_ ?_
      | refine LeO.bind ?_ (fun _ => ?_)
    · intro y0 y1 y2 y3 y4 y5 y6 y7
      unfold spec_trCount.l5
      repeat' first
      | (with_reducible exact ih0 _ _ _)
      | (with_reducible exact ih1 _ _ _ _ _)
      | (with_reducible exact ih2 _ _ _ _ _)
      | (with_reducible exact ih3 _ _ _ _ _ _)
      | (with_reducible exact ih4 _ _ _ _)
      | (with_reducible exact ih5 _ _ _ _ _)
      | (with_reducible exact ih6 _ _ _ _ _ _ _)
      | (with_reducible exact ih7 _ _ _ _ _ _ _ _)
      | (with_reducible exact LeO.refl _)
      | (with_reducible exact LeO.none _)
      | (with_reducible refine LeO.ite ?_ ?_)
      | (with_reducible refine LeO.bind ?_ (fun _ => ?_))
      | exact ih0 _ _ _
      | exact ih1 _ _ _ _ _
      | exact ih2 _ _ _ _ _
      | exact ih3 _ _ _ _ _ _
      | exact ih4 _ _ _ _
      | exact ih5 _ _ _ _ _
      | exact ih6 _ _ _ _ _ _ _
      | exact ih7 _ _ _ _ _ _ _ _
      | exact LeO.none _
      | refine LeO.ite ?_ ?_
      | refine LeO.bind ?_ (fun _ => ?_)
theorem spec_trCount.mono : ∀ a0 a1 a2 k, LeO (spec_trCount.f k a0 a1 a2) (spec_trCount.f (k + 1) a0 a1 a2) := by
  intro a0 a1 a2 k
  obtain ⟨ih0, ih1, ih2, ih3, ih4, ih5, ih6, ih7⟩ := spec_trCount.mono_l k
  exact ih0 a0 a1 a2
def spec_trCount.T28 : Bool × List (List Nat × List Nat) := (true, [([], []), ([], []), ([], []), ([], []), ([2, 3], [2, 3]), ([4], [4]), ([], []), ([], []), ([7], [7]), ([6, 8], [6, 8]), ([9], [9]), ([], []), ([10, 11], [10, 11]), ([12], [12]), ([], []), ([], []), ([14, 15], [14, 15]), ([16], [16]), ([], []), ([18], [18]), ([], []), ([19, 20], [19, 20]), ([17, 21], [17, 21]), ([22], [22]), ([5, 13, 23], [5, 13, 23]), ([0, 1, 0, 1, 2, 3, 4, 5, 6, 7, 8, 9, 10, 11, 12, 13, 14, 15, 16, 17, 18, 19, 20, 21, 22, 23, 24], [0, 1]), ([25, 24, 24, 0, 1, 2, 3, 4, 5, 6, 7, 8, 9, 10, 11, 12, 13, 14, 15, 16, 17, 18, 19, 20, 21, 22, 23, 24], [24, 25])])
def spec_trCount.B28 : List Nat := [0, 0, 0, 0, 12, 28, 0, 0, 128, 448, 960, 0, 4032, 8128, 0, 0, 49152, 114688, 0, 262144, 0, 1835008, 4177920, 8372224, 16777212, 33554431, 67108863]
theorem spec_trCount.tab28 : rtab .any (opsOf Try.f68 28) = spec_trCount.T28 := by kernel_rfl
theorem spec_trCount.bits28 : waitsOk spec_trCount.T28.2 spec_trCount.B28 = true := by kernel_rfl
set_option maxHeartbeats 8000000 in
set_option maxRecDepth 100000 in
theorem spec_trCount.calls (k : Nat) : ∀ (a0 : Int) (a1 : Int) (a2 : Int) (r : List Int) (w : World) (h : spec_trCount.f k a0 a1 a2 = some r),
    Calls Try.prog 68 #[.int .i64 a0, .int .i64 a1, .int .i64 a2] w fun e w' => ∃ v0_ : Value, e = .returned (v0_) ∧ Kd.R (Kd.int .i64) 3 w' w.heap.size (fun _ => True) v0_ r ∧ Below w.heap.size w w' := by
  induction k using Nat.strongRecOn with
  | _ k ih =>
  intro a0 a1 a2 r w h
  cases k with
  | zero => exact absurd h (by simp [spec_trCount.f])
  | succ k =>
  simp only [spec_trCount.f] at h
  have HB := Aside0.mk (Below.refl w.heap.size w)
  have H : (spec_trCount.l0 k a0 a1 a2 ([] : List Int) 0) = some r := h
  clear h
  have H' := Aside0.mk H
  clear H
  go_enter Try.func68, Try.ntmps68
  go_wp2
  go_loopg [7, 8] k (fun kq v7 v8 w' => ∃ (x7_1 : List Int) (x8_1 : Int), v8 = .int .i64 x8_1 ∧ Aside0 (spec_trCount.l0 kq a0 a1 a2 x7_1 x8_1 = some r) ∧ Aside0 (kq ≤ k) ∧ Aside0 (Kd.R (Kd.int .i64) 3 w' w.heap.size (fun _ => True) v7 x7_1) ∧ Aside0 (Below w.heap.size w w'))
  case atStart => exact ⟨(([] : List Int)), (0), (by first | rfl | (simp; done) | (simp [*]; done)), H', ⟨Nat.le_refl _⟩, ⟨by first | exact Kd.R_nil _ _ _ _ _ | exact Kd.N_nil _ _ _ _ _ | exact Kd.V_nil _ _ _ _ _ | exact Kd.Q_nil _ _ _ _ _ | exact Kd.S_nil _ _ _ _ _⟩, ⟨by repeat (first | (with_reducible first | exact HB.out | apply below_alloc | apply pw_below_drewN | apply below_drew1) | exact HB.out)⟩⟩
  case round =>
    clear H'
    try clear p2
    obtain ⟨x7_1, x8_1, rfl, HA, HK1, HO_7, HB⟩ := hrel
    cases gk with
    | zero => exact absurd HA.out (by simp [spec_trCount.l0])
    | succ k1 =>
      have H := HA.out
      clear HA
      simp only [spec_trCount.l0] at H
      by_cases c4 : x8_1 ≤ a1
      · rw [if_pos c4] at H
        have c4b0 : decide (x8_1 ≤ a1) = true := decide_eq_true c4
        clear c4
        by_cases c5 : x7_1.length < 17592186044416
        · rw [if_pos c5] at H
          have LMc5 := Aside0.mk c5
          clear c5
          obtain ⟨y111, hy111⟩ : ∃ y_ : List Int, y_ = (x7_1 ++ [0]) := ⟨_, rfl⟩
          replace H : (spec_trCount.l0 k1 a0 a1 a2 y111 (wrap64 (x8_1 + 1))) = some r := by first | (rw [hy111]; with_reducible exact H) | (have H2_ := (Option.bind_some _ _).symm.trans H; rw [hy111]; with_reducible exact H2_) | (have H2_ := (Option.bind_some _ _).symm.trans H; with_reducible exact H2_) | with_reducible exact H | (rw [hy111]; exact H) | exact H
          have Ny111 := Aside0.mk hy111
          clear hy111
          have H' := Aside0.mk H
          clear H
          go_wp2_with (first | ((with_reducible refine gate_builtin (b := .append) (xs := #[.tmp 20, .tmp 21]) rfl ?_); at_builtin; refine Kd.R_append (Kd.int .i64) (w0 := w) w.heap.size rfl (.tmp 20) (.tmp 21) 27 3 (.int .i64 0) 8 rfl Try.underlying27 info3 rfl (by decide) (by omega) u7 x7_1 0 [.int .i64 0] (fun _ => True) (fun _ => False) rfl rfl ?aP (fun _ hk => hk.elim) ?aF ?aO ?aB ?aS ?aL ?_; (case aP => exact rfl); (case aB => exact (by repeat (first | (with_reducible first | exact HB.out | apply below_alloc | apply pw_below_drewN | apply below_drew1) | exact HB.out))); (case aF => exact (fun _ _ => trivial)); (case aO => exact (by (with_reducible repeat (first | apply Kd.R_alloc | apply Kd.R_drewN | apply Kd.R_drew)); exact HO_7.out)); (case aS => exact (below_size (by repeat (first | (with_reducible first | exact HB.out | apply below_alloc | apply pw_below_drewN | apply below_drew1) | exact HB.out)))); (case aL => have := LMc5.out; omega); intro v112 w6 ho hb hg hat; rw [← Ny111.out] at ho; have n0_ := Aside0.mk (hb); have n1_ := Aside0.mk (ho); clear HB; clear HO_7; have HB := n0_; have HO113 := n1_; clear n0_ n1_; clear ho hb hg hat))
          go_roundg k1
          case measure => have := HK1.out; omega
          case rel => exact ⟨(y111), (wrap64 (x8_1 + 1)), (by first | rfl | (simp; done) | (simp [*]; done)), H', ⟨by have := HK1.out; omega⟩, ⟨by (with_reducible repeat (first | apply Kd.R_alloc | apply Kd.R_drewN | apply Kd.R_drew)); exact HO113.out⟩, ⟨by repeat (first | (with_reducible first | exact HB.out | apply below_alloc | apply pw_below_drewN | apply below_drew1) | exact HB.out)⟩⟩
        · rw [if_neg c5] at H
          exact absurd H (by simp)
      · rw [if_neg c4] at H
        have c4b0 : decide (x8_1 ≤ a1) = false := decide_eq_false c4
        clear c4
        by_cases c7 : 0 < (x7_1.length : Int)
        · rw [if_pos c7] at H
          have c7b0 : decide (0 < (x7_1.length : Int)) = true := decide_eq_true c7
          have c7b1 : decide (0 < x7_1.length) = true := decide_eq_true (by omega)
          clear c7
          obtain ⟨y114, hy114⟩ : ∃ y_ : List Int, y_ = (x7_1.set (0 : Int).toNat 1) := ⟨_, rfl⟩
          replace H : (if a0 = 0 then (spec_trCount.j1 k1 a0 a1 a2 y114 true) else (spec_trCount.j1 k1 a0 a1 a2 y114 (a2 == 0))) = some r := by first | (rw [hy114]; with_reducible exact H) | (have H2_ := (Option.bind_some _ _).symm.trans H; rw [hy114]; with_reducible exact H2_) | (have H2_ := (Option.bind_some _ _).symm.trans H; with_reducible exact H2_) | with_reducible exact H | (rw [hy114]; exact H) | exact H
          have Ny114 := Aside0.mk hy114
          clear hy114
          have HC9 := Aside0.mk H
          clear H
          have p8 : 0 ≤ (0 : Int) := (by omega)
          have q8 : (0 : Int) < ((x7_1.length : Int) : Int) := of_decide_eq_true (by first | (with_reducible assumption) | assumption)
          have qi8 : (0 < x7_1.length) = True := eq_true (by omega)
          obtain ⟨go8, co8, eo8, gb8, gl8, cl8, HG8⟩ := Kd.R_form HO_7.out (by omega)
          (first | cases eo8 | (injection eo8 with ea_ en_ ec_; (first | subst ea_ | (injection ea_ with ea_; subst ea_)); subst ec_; clear en_))
          have GB8 := Aside0.mk gb8
          have GG8 := Aside0.mk HG8
          clear gb8 gl8 HG8
          obtain ⟨hx8_0, hf8_0⟩ := Kd.R_celln 0 HO_7.out (0 : Int) p8 q8
          (try rw [show ((0 : Int)).toNat = 0 from rfl] at hx8_0)
          (try simp only [Nat.reduceMul, Nat.zero_mul, Nat.zero_add, Nat.reduceAdd] at hx8_0)
          (try rw [show ((0 : Int)).toNat = 0 from rfl] at hf8_0)
          (try simp only [Nat.reduceMul, Nat.zero_mul, Nat.zero_add, Nat.reduceAdd] at hf8_0)
          replace p8 := eq_true p8
          replace q8 := eq_true q8
          have HP10 := Kd.R_putg HO_7.out (0 : Int) 1
          go_upto_region 7 with (first | ((with_reducible refine gate_store (t := 3) (p := 24) rfl ?_); refine store_event (t := 3) (p := 24) (v := ?vo_w11) (w1 := (wr.setCell ⟨go8, (0 : Int).toNat, none⟩ (.int .i64 1))) ?hg ?ho ?hn ?hr ?_; (case ho => rfl); (case hg => rfl); (case hn => rfl); (case hr => first | (go_simp; done) | (go_simp; rfl)); intro w11 hw; have hg : wr.grownBy w11 (some go8) := (by rw [hw]; exact HP10.2); have hp_ : Kd.R (Kd.int .i64) 3 w11 w.heap.size (fun _ => True) (.slice (some ⟨go8, 0, none⟩) x7_1.length co8) y114 := (by rw [hw, Ny114.out]; exact HP10.1); clear HP10; have n0_ := Aside0.mk (hp_); have n1_ := Aside0.mk ((by rw [hw]; exact below_set (HB.out) GB8.out : Below w.heap.size w w11)); clear HO_7; clear HB; have HO_7 := n0_; have HB := n1_; clear n0_ n1_; clear hg hw hp_))
          (try simp only [Act.put, List.setIfInBounds_toArray, List.set_cons_zero, List.set_cons_succ])
          go_cut [30] (fun v30 wc => ∃ (kq : Nat) (x30_8 : Bool), v30 = .bool x30_8 ∧ Aside0 (spec_trCount.j1 kq a0 a1 a2 y114 x30_8 = some r) ∧ Aside0 (kq ≤ k1) ∧ Aside0 (Kd.R (Kd.int .i64) 3 wc w.heap.size (fun _ => True) (.slice (some ⟨go8, 0, none⟩) x7_1.length co8) y114) ∧ Aside0 (Below w.heap.size w wc))
          case first =>
            have H := HC9.out
            clear HC9
            by_cases c12 : a0 = 0
            · rw [if_pos c12] at H
              have c12b0 : (a0 == 0) = true := beq_iff_eq.mpr c12
              have c12b1 : (a0 != 0) = false := bne_eq_false_iff_eq.mpr c12
              clear c12
              (first | rw [c12b0] | (simp only [i64_w, i32_w]; rw [c12b0]) | skip)
              have H' := Aside0.mk H
              clear H
              go_wp2
              go_meet
              case rel => exact ⟨_, (true), (by first | rfl | (simp; done) | (simp [*]; done)), H', ⟨by have := HK1.out; first | omega | exact Nat.le_refl _⟩, ⟨by (with_reducible repeat (first | apply Kd.R_alloc | apply Kd.R_drewN | apply Kd.R_drew)); exact HO_7.out⟩, ⟨by repeat (first | (with_reducible first | exact HB.out | apply below_alloc | apply pw_below_drewN | apply below_drew1) | exact HB.out)⟩⟩
            · rw [if_neg c12] at H
              have c12b0 : (a0 == 0) = false := beq_eq_false_iff_ne.mpr c12
              have c12b1 : (a0 != 0) = true := bne_iff_ne.mpr c12
              (first | rw [c12b0] | (simp only [i64_w, i32_w]; rw [c12b0]) | skip)
              have H' := Aside0.mk H
              clear H
              go_wp2
              go_meet
              case rel => exact ⟨_, ((a2 == 0)), (by first | rfl | (simp; done) | (simp [*]; done)), H', ⟨by have := HK1.out; first | omega | exact Nat.le_refl _⟩, ⟨by (with_reducible repeat (first | apply Kd.R_alloc | apply Kd.R_drewN | apply Kd.R_drew)); exact HO_7.out⟩, ⟨by repeat (first | (with_reducible first | exact HB.out | apply below_alloc | apply pw_below_drewN | apply below_drew1) | exact HB.out)⟩⟩
          case rest =>
            clear HC9
            try clear c1
            try clear p2
            try clear c4
            try clear c4b0
            try clear c5
            try clear c6
            try clear p6
            try clear c7
            try clear c7b0
            try clear c7b1
            try clear p8
            try clear q8
            try clear hx8
            try clear qi8
            try clear hf8
            try clear c12
            try clear c12b0
            try clear c12b1
            try clear hx8_0
            try clear p2
            try clear p8
            try clear q8
            obtain ⟨kq, x30_8, rfl, HA, HJ8, HO_7, HB⟩ := hcut
            have hl7_8 := (Kd.R_reads' HO_7.out).1
            rw [hl7_8] at HO_7
            (try simp only [hl7_8])
            cases kq with
            | zero => exact absurd HA.out (by simp [spec_trCount.j1])
            | succ kj8 =>
              have H := HA.out
              clear HA
              simp only [spec_trCount.j1] at H
              by_cases c13 : x30_8 = true
              · subst c13
                have H1 : (some y114) = some r := by rw [if_pos rfl] at H; exact H
                clear H
                have H := H1
                clear H1
                obtain rfl := Option.some.inj H
                go_wp2
                go_ret
                exact ⟨_, by first | rfl | (simp [errW_none, errW_some] <;> rfl) | (simp [*, errW_none, errW_some] <;> rfl), by (with_reducible repeat (first | apply Kd.R_alloc | apply Kd.R_drewN | apply Kd.R_drew)); exact HO_7.out, by repeat (first | (with_reducible first | exact HB.out | apply below_alloc | apply pw_below_drewN | apply below_drew1) | exact HB.out)⟩
              · replace c13 := Bool.eq_false_iff.mpr c13
                subst c13
                have H1 : (if 0 ≤ (wrap64 (a0 + 1)) then (if (wrap64 (a0 + 1) : Int).toNat ≤ 11728124029610 then ((some (List.replicate (wrap64 (a0 + 1) : Int).toNat [] : List (List Int))).bind fun y115 => (spec_trCount.l1 kj8 a0 a1 a2 y115 (y115.length : Int) 0)) else (none)) else (none)) = some r := by rw [if_neg (show ¬ (false = true) by decide)] at H; exact H
                clear H
                have H := H1
                clear H1
                obtain ⟨ji14, hji14⟩ : ∃ j_ : Int, (wrap64 (a0 + 1)) = j_ := ⟨_, rfl⟩
                replace H : (if 0 ≤ (ji14) then (if (ji14 : Int).toNat ≤ 11728124029610 then ((some (List.replicate (ji14 : Int).toNat [] : List (List Int))).bind fun y115 => (spec_trCount.l1 kj8 a0 a1 a2 y115 (y115.length : Int) 0)) else (none)) else (none)) = some r := by first | (rw [hji14] at H; exact H) | (simp only [hji14] at H ⊢; exact H)
                have hji14w : (IntKind.i64.wrap (a0 + 1)) = ji14 := (i64_w _).trans hji14
                by_cases c15 : 0 ≤ (ji14)
                · rw [if_pos c15] at H
                  have c15b0 := eq_true c15
                  have c15b1 : decide (0 ≤ (ji14)) = true := decide_eq_true c15
                  clear c15
                  by_cases c16 : (ji14 : Int).toNat ≤ 11728124029610
                  · rw [if_pos c16] at H
                    have c16b0 := eq_true c16
                    have c16b1 : decide ((ji14 : Int).toNat ≤ 11728124029610) = true := decide_eq_true c16
                    clear c16
                    obtain ⟨y115, hy115⟩ : ∃ y_ : List (List Int), y_ = (List.replicate (ji14 : Int).toNat []) := ⟨_, rfl⟩
                    replace H : (spec_trCount.l1 kj8 a0 a1 a2 y115 (y115.length : Int) 0) = some r := by first | (rw [hy115]; with_reducible exact H) | (have H2_ := (Option.bind_some _ _).symm.trans H; rw [hy115]; with_reducible exact H2_) | (have H2_ := (Option.bind_some _ _).symm.trans H; with_reducible exact H2_) | with_reducible exact H | (rw [hy115]; exact H) | exact H
                    have Ny115 := Aside0.mk hy115
                    clear hy115
                    have H' := Aside0.mk H
                    clear H
                    go_wp2_with (first | ((with_reducible refine gate_dst (N := 34) rfl ?_); refine Kd.S_make (Kd.slice 3 (Kd.int .i64)) _ 27 rfl (N := 34) rfl 63 _ _ rfl ji14 rfl rfl Try.underlying63 (.slice none 0 0) 24 info27 rfl (by decide) (by omega) [] (ok := fun _ => True) (okp := fun _ => True) ⟨_, rfl, Kd.R_nil _ _ _ _ _⟩ (fun _ hk => hk) trivial (of_decide_eq_true (by first | (with_reducible assumption) | assumption)) (Nat.le_trans (Nat.mul_le_mul_right _ (of_decide_eq_true (by first | (with_reducible assumption) | assumption) : ji14.toNat ≤ 11728124029610)) (by omega)) (Below.refl _ _) (Nat.le_refl _) ?_; intro v116 w17 ho18 hb hg_ hnew_; clear hg_ hnew_; (first | rw [← Ny115.out] at ho18 | (simp only [Int.reduceToNat] at ho18; rw [← Ny115.out] at ho18)); have n0_ := Aside0.mk (Kd.R_below (by (with_reducible repeat (first | apply Kd.R_alloc | apply Kd.R_drewN | apply Kd.R_drew)); exact HO_7.out) hb); have n1_ := Aside0.mk (Kd.S_lower (Kd.S_new' ho18 (Kd.R_lt (by (with_reducible repeat (first | apply Kd.R_alloc | apply Kd.R_drewN | apply Kd.R_drew)); exact HO_7.out))) (below_size (by repeat (first | (with_reducible first | exact HB.out | apply below_alloc | apply pw_below_drewN | apply below_drew1) | exact HB.out)))); have n2_ := Aside0.mk (below_step (by repeat (first | (with_reducible first | exact HB.out | apply below_alloc | apply pw_below_drewN | apply below_drew1) | exact HB.out)) hb); clear HO_7; clear HB; have HO_7 := n0_; have HO117 := n1_; have HB := n2_; clear n0_ n1_ n2_; clear hb ho18; obtain ⟨Ao19, co19, eo19⟩ := Kd.S_slice HO117.out; subst eo19))
                    go_loopg [37] kj8 (fun kq v37 w' => ∃ (x9_3 : List (List Int)) (x37_3 : Int), v37 = .int .i64 x37_3 ∧ Aside0 (spec_trCount.l1 kq a0 a1 a2 x9_3 (y115.length : Int) x37_3 = some r) ∧ Aside0 (kq ≤ kj8) ∧ Aside0 (Kd.S (Kd.slice 3 (Kd.int .i64)) 27 w' w.heap.size (fun _ => True) (.slice Ao19 y115.length co19) x9_3) ∧ Aside0 (Below w.heap.size w w'))
                    case atStart => exact ⟨(y115), (0), (by first | rfl | (simp; done) | (simp [*]; done)), H', ⟨Nat.le_refl _⟩, ⟨by (try simp only [hl7_8]); (with_reducible repeat (first | apply Kd.S_alloc | apply Kd.S_drewN | apply Kd.S_drew)); exact Kd.S_mono HO117.out (fun _ hk => trivial)⟩, ⟨by repeat (first | (with_reducible first | exact HB.out | apply below_alloc | apply pw_below_drewN | apply below_drew1) | exact HB.out)⟩⟩
                    case round =>
                      clear H'
                      try clear c1
                      try clear p2
                      try clear c4
                      try clear c4b0
                      try clear c5
                      try clear c6
                      try clear p6
                      try clear c7
                      try clear c7b0
                      try clear c7b1
                      try clear p8
                      try clear q8
                      try clear hx8
                      try clear qi8
                      try clear hf8
                      try clear c12
                      try clear c12b0
                      try clear c12b1
                      try clear c13
                      try clear c15
                      try clear c15b0
                      try clear c15b1
                      try clear c16
                      try clear c16b0
                      try clear c16b1
                      try clear hx8_0
                      try clear p2
                      try clear p6
                      try clear p8
                      try clear q8
                      obtain ⟨x9_3, x37_3, rfl, HA, HK3, HO_9, HB⟩ := hrel
                      have hl9_3 := (Kd.S_reads' HO_9.out).1
                      rw [hl9_3] at HO_9
                      (try simp only [hl9_3])
                      cases gk with
                      | zero => exact absurd HA.out (by simp [spec_trCount.l1])
                      | succ k3 =>
                        have H := HA.out
                        clear HA
                        simp only [spec_trCount.l1] at H
                        by_cases c20 : x37_3 < (y115.length : Int)
                        · rw [if_pos c20] at H
                          have c20b0 : decide (x37_3 < (y115.length : Int)) = true := decide_eq_true c20
                          clear c20
                          replace H := Option.bind_eq_some_iff.mp H
                          obtain ⟨t118, A210, H⟩ := H
                          replace H : (if 0 ≤ x37_3 then (if x37_3 < (x9_3.length : Int) then (spec_trCount.l1 k3 a0 a1 a2 (x9_3.set (x37_3 : Int).toNat t118) (y115.length : Int) (wrap64 (x37_3 + 1))) else (none)) else (none)) = some r := H
                          have A21 := Aside0.mk A210
                          clear A210
                          by_cases c22 : 0 ≤ x37_3
                          · rw [if_pos c22] at H
                            have c22b0 : decide (0 ≤ x37_3) = true := decide_eq_true c22
                            clear c22
                            by_cases c23 : x37_3 < (x9_3.length : Int)
                            · rw [if_pos c23] at H
                              have c23b0 : decide (x37_3 < (x9_3.length : Int)) = true := decide_eq_true c23
                              clear c23
                              obtain ⟨y121, hy121⟩ : ∃ y_ : List (List Int), y_ = (x9_3.set (x37_3 : Int).toNat t118) := ⟨_, rfl⟩
                              replace H : (spec_trCount.l1 k3 a0 a1 a2 y121 (y115.length : Int) (wrap64 (x37_3 + 1))) = some r := by first | (rw [hy121]; with_reducible exact H) | (have H2_ := (Option.bind_some _ _).symm.trans H; rw [hy121]; with_reducible exact H2_) | (have H2_ := (Option.bind_some _ _).symm.trans H; with_reducible exact H2_) | with_reducible exact H | (rw [hy121]; exact H) | exact H
                              have Ny121 := Aside0.mk hy121
                              clear hy121
                              have H' := Aside0.mk H
                              clear H
                              go_wp2_with (first | ((with_reducible refine gate_callee (f := 68) rfl ?_); refine goesL_ (some 43) rfl rfl Try.func68 (by kernel_rfl) rfl #[.int .i64 0, .int .i64 a1, .int .i64 0] rfl (by (try simp only [List.map_toArray, List.map_cons, List.map_nil]); first | done | rfl | (simp only [List.length_drop, List.length_take]; rfl)) ?_; (with_reducible refine (ih k3 (by have := HK1.out; have := HJ8.out; have := HK3.out; omega) 0 a1 0 t118 _ A21.out).mono ?_); rintro e w25 ⟨v119, rfl, ho0, hb⟩; refine ⟨_, rfl, ?_⟩; have n0_ := Aside0.mk (Kd.S_elder' (by (with_reducible repeat (first | apply Kd.S_alloc | apply Kd.S_drewN | apply Kd.S_drew)); exact HO_9.out) (Kd.R_base ho0) hb); have n1_ := Aside0.mk (Kd.R_lower ho0 (below_size (by repeat (first | (with_reducible first | exact HB.out | apply below_alloc | apply pw_below_drewN | apply below_drew1) | exact HB.out)))); have n2_ := Aside0.mk (below_step (by repeat (first | (with_reducible first | exact HB.out | apply below_alloc | apply pw_below_drewN | apply below_drew1) | exact HB.out)) hb); clear HO_9; clear HB; have HO_9 := n0_; have HO120 := n1_; have HB := n2_; clear n0_ n1_ n2_; (try clear hb); (try clear hb2); (try clear hk); (try clear hi); (try clear ho0); have p24 : 0 ≤ (x37_3 : Int) := of_decide_eq_true (by first | (with_reducible assumption) | assumption); have q24 : (x37_3 : Int) < ((x9_3.length : Int) : Int) := of_decide_eq_true (by first | (with_reducible assumption) | assumption); obtain ⟨go24, co24, eo24, gb24, gl24, cl24, HG24⟩ := Kd.S_form HO_9.out (by omega); (first | cases eo24 | (injection eo24 with ea_ en_ ec_; (first | subst ea_ | (injection ea_ with ea_; subst ea_)); subst ec_; clear en_)); have GB24 := Aside0.mk gb24; have GG24 := Aside0.mk HG24; clear gb24 gl24 HG24; obtain ⟨_, ce24, hcl24, hM24, hcc24, hfr24, _, _⟩ := Kd.S_elem HO_9.out [] (x37_3 : Int) p24 q24; obtain ⟨ve24_0, rfl, ge24_0⟩ := hM24; have hx24_0 := hcc24 0 _ rfl; have hf24_0 := hfr24 0; (try simp only [show ((Kd.slice 3 (Kd.int .i64))).sz = 1 from rfl, Nat.mul_one, Nat.add_zero] at hx24_0); (try simp only [show ((Kd.slice 3 (Kd.int .i64))).sz = 1 from rfl, Nat.mul_one, Nat.add_zero] at hf24_0); (try clear hcl24); (try clear hcc24); (try clear hfr24); (try clear hM24); replace p24 := eq_true p24; replace q24 := eq_true q24; have n_ := Aside0.mk (Kd.S_mono (ok' := (fun k_ => some k_ ≠ (v119 : Value).ownBlock)) HO_9.out (fun k_ hk => hk.2)); clear HO_9; have HO_9 := n_; clear n_; have HX26 := Aside0.mk (show Kd.S (Kd.slice 3 (Kd.int .i64)) 27 w25 w.heap.size (fun k_ => ((fun _ => True)) k_ ∧ ¬ ((fun k_ => some k_ = (v119 : Value).ownBlock)) k_) (.slice (some ⟨go24, 0, none⟩) x9_3.length co19) x9_3 from (by (with_reducible repeat (first | apply Kd.S_alloc | apply Kd.S_drewN | apply Kd.S_drew)); exact Kd.S_mono HO_9.out (fun k_ hk => ⟨trivial, fun e_ => hk e_⟩))); obtain ⟨oki26, ce26, hcl26, hM26, hcc26, hfr26, hoki26, hH26⟩ := Kd.S_elem HX26.out [] (x37_3 : Int) (of_decide_eq_true (by first | (with_reducible assumption) | assumption)) (by have h_ : (x37_3 : Int) < ((x9_3.length : Int) : Int) := of_decide_eq_true (by first | (with_reducible assumption) | assumption); first | exact h_ | (have e_ := (Kd.S_reads' HO_9.out).1; omega) | simpa using h_); obtain ⟨ve26_0, rfl, ge26_0⟩ := hM26; have HP26 := Kd.S_seg hH26 (of_decide_eq_true (by first | (with_reducible assumption) | assumption)) (by have h_ : (x37_3 : Int) < ((x9_3.length : Int) : Int) := of_decide_eq_true (by first | (with_reducible assumption) | assumption); first | exact h_ | (have e_ := (Kd.S_reads' HO_9.out).1; omega) | simpa using h_) (seg := [v119]) (j := 0) (show 1 ≤ 1 from by decide) (x' := t118) (Kd.M_row (Kd.R_mono (Kd.R_tight rfl (Kd.R_mono (ok' := fun k_ => ((fun _ => True)) k_ ∧ k_ ≠ go24) (Kd.R_apart' (HO120.out) (Kd.S_typed HO_9.out) (by decide)) (fun k_ hk => ⟨trivial, fun e_ => (hk.2) (by rw [e_]; rfl)⟩))) (fun _ h_ => Or.inr (h_)))) (fun _ hk => hk) (fun k_ hk_ => ((Kd.R_mono (ok' := fun k_ => ((fun _ => True)) k_ ∧ k_ ≠ go24) (Kd.R_apart' (HO120.out) (Kd.S_typed HO_9.out) (by decide)) (fun k_ hk => ⟨trivial, fun e_ => (hk.2) (by rw [e_]; rfl)⟩))).1 k_ hk_.symm); have hx26_0 := hcc26 0 _ rfl; (try simp only [show ((Kd.slice 3 (Kd.int .i64))).sz = 1 from rfl, Nat.mul_one, Nat.add_zero] at hx26_0); have hf26_0 := hfr26 0; (try simp only [show ((Kd.slice 3 (Kd.int .i64))).sz = 1 from rfl, Nat.mul_one, Nat.add_zero] at hf26_0); (try clear hcl26); (try clear hcc26); (try clear hfr26); (try clear hM26); (try clear hoki26); (try clear hH26); (try simp only [show ((Kd.slice 3 (Kd.int .i64))).sz = 1 from rfl, Nat.mul_one, Nat.add_zero] at HP26)) | ((with_reducible refine gate_store (t := 27) (p := 44) rfl ?_); refine store_event (t := 27) (p := 44) (v := ?vo_w27) (w1 := (w25.setCell ⟨go24, (x37_3 : Int).toNat, none⟩ (v119))) ?hg ?ho ?hn ?hr ?_; (case ho => rfl); (case hg => rfl); (case hn => rfl); (case hr => first | (go_simp; done) | (go_simp; rfl) | (obtain ⟨Ao_, co_, eo_⟩ := Kd.R_slice HO112.out; subst eo_; go_simp; first | done | rfl) | (obtain ⟨Ao_, co_, eo_⟩ := Kd.R_slice HO120.out; subst eo_; go_simp; first | done | rfl)); intro w27 hw; have hg : w25.grownBy w27 (some go24) := (by rw [hw]; exact HP26.2); have hp_ : Kd.S (Kd.slice 3 (Kd.int .i64)) 27 w27 w.heap.size (fun _ => True) (.slice (some ⟨go24, 0, none⟩) x9_3.length co19) y121 := (by rw [hw, Ny121.out]; exact HP26.1); clear HP26; have n0_ := Aside0.mk (hp_); have n1_ := Aside0.mk ((by rw [hw]; exact below_set (HB.out) GB24.out : Below w.heap.size w w27)); clear HO_9; clear HB; clear HO120; have HO_9 := n0_; have HB := n1_; clear n0_ n1_; clear hg hw hp_))
                              (try simp only [← hl9_3])
                              go_roundg k3
                              case measure => have := HK1.out; have := HJ8.out; have := HK3.out; omega
                              case rel => exact ⟨(y121), (wrap64 (x37_3 + 1)), (by first | rfl | (simp; done) | (simp [*]; done)), H', ⟨by have := HK1.out; have := HJ8.out; have := HK3.out; omega⟩, ⟨by (try simp only [hl7_8]); (try simp only [hl9_3]); (with_reducible repeat (first | apply Kd.S_alloc | apply Kd.S_drewN | apply Kd.S_drew)); exact HO_9.out⟩, ⟨by repeat (first | (with_reducible first | exact HB.out | apply below_alloc | apply pw_below_drewN | apply below_drew1) | exact HB.out)⟩⟩
                            · rw [if_neg c23] at H
                              exact absurd H (by simp)
                          · rw [if_neg c22] at H
                            exact absurd H (by simp)
                        · rw [if_neg c20] at H
                          have c20b0 : decide (x37_3 < (y115.length : Int)) = false := decide_eq_false c20
                          (try (have c_x := c20b0; rw [hl9_3] at c_x))
                          clear c20
                          have H' := Aside0.mk H
                          clear H
                          go_wp2
                          go_loopg [2] k3 (fun kq v2 w' => ∃ (x2_4 : Int) (x9_4 : List (List Int)), v2 = .int .i64 x2_4 ∧ Aside0 (spec_trCount.l2 kq a0 a1 x2_4 x9_4 = some r) ∧ Aside0 (kq ≤ k3) ∧ Aside0 (Kd.S (Kd.slice 3 (Kd.int .i64)) 27 w' w.heap.size (fun _ => True) (.slice Ao19 x9_3.length co19) x9_4) ∧ Aside0 (Below w.heap.size w w'))
                          case atStart => exact ⟨(a2), (x9_3), (by first | rfl | (simp; done) | (simp [*]; done)), H', ⟨Nat.le_refl _⟩, ⟨by (try simp only [hl7_8]); (try simp only [hl9_3]); (with_reducible repeat (first | apply Kd.S_alloc | apply Kd.S_drewN | apply Kd.S_drew)); exact HO_9.out⟩, ⟨by repeat (first | (with_reducible first | exact HB.out | apply below_alloc | apply pw_below_drewN | apply below_drew1) | exact HB.out)⟩⟩
                          case round =>
                            clear H'
                            try clear c1
                            try clear c2
                            try clear p2
                            try clear q2
                            try clear hx2
                            try clear c4
                            try clear c4b0
                            try clear c5
                            try clear c6
                            try clear p6
                            try clear c7
                            try clear c7b0
                            try clear c7b1
                            try clear p8
                            try clear q8
                            try clear hx8
                            try clear qi8
                            try clear hf8
                            try clear c12
                            try clear c12b0
                            try clear c12b1
                            try clear c13
                            try clear c15
                            try clear c15b0
                            try clear c15b1
                            try clear c16
                            try clear c16b0
                            try clear c16b1
                            try clear c20
                            try clear c20b0
                            try clear c22
                            try clear c22b0
                            try clear c23
                            try clear c23b0
                            try clear c24
                            try clear p24
                            try clear q24
                            try clear hx24
                            try clear hf24
                            try clear c26
                            try clear hx26
                            try clear hf26
                            try clear hx24_0
                            try clear hx26_0
                            try clear hx8_0
                            try clear p2
                            try clear p24
                            try clear p6
                            try clear p8
                            try clear q24
                            try clear q8
                            obtain ⟨x2_4, x9_4, rfl, HA, HK4, HO_9, HB⟩ := hrel
                            have hl9_4 := (Kd.S_reads' HO_9.out).1
                            rw [hl9_4] at HO_9
                            (try simp only [hl9_4])
                            cases gk with
                            | zero => exact absurd HA.out (by simp [spec_trCount.l2])
                            | succ k4 =>
                              have H := HA.out
                              clear HA
                              simp only [spec_trCount.l2] at H
                              by_cases c28 : x2_4 > 0
                              · rw [if_pos c28] at H
                                have c28b0 : decide (0 < x2_4) = true := decide_eq_true c28
                                clear c28
                                have H' := Aside0.mk H
                                clear H
                                go_wp2
                                go_loopg [11] k4 (fun kq v11 w' => ∃ (x9_5 : List (List Int)) (x11_5 : Int), v11 = .int .i64 x11_5 ∧ Aside0 (spec_trCount.l3 kq a0 a1 x2_4 x9_5 x11_5 = some r) ∧ Aside0 (kq ≤ k4) ∧ Aside0 (Kd.S (Kd.slice 3 (Kd.int .i64)) 27 w' w.heap.size (fun _ => True) (.slice Ao19 x9_4.length co19) x9_5) ∧ Aside0 (Below w.heap.size w w'))
                                case atStart => exact ⟨(x9_4), (a0), (by first | rfl | (simp; done) | (simp [*]; done)), H', ⟨Nat.le_refl _⟩, ⟨by (try simp only [hl7_8]); (try simp only [hl9_3]); (try simp only [hl9_4]); (with_reducible repeat (first | apply Kd.S_alloc | apply Kd.S_drewN | apply Kd.S_drew)); exact HO_9.out⟩, ⟨by repeat (first | (with_reducible first | exact HB.out | apply below_alloc | apply pw_below_drewN | apply below_drew1) | exact HB.out)⟩⟩
                                case round =>
                                  clear H'
                                  try clear c1
                                  try clear c2
                                  try clear p2
                                  try clear q2
                                  try clear hx2
                                  try clear c4
                                  try clear c4b0
                                  try clear c5
                                  try clear c6
                                  try clear p6
                                  try clear c7
                                  try clear c7b0
                                  try clear c7b1
                                  try clear p8
                                  try clear q8
                                  try clear hx8
                                  try clear qi8
                                  try clear hf8
                                  try clear c12
                                  try clear c12b0
                                  try clear c12b1
                                  try clear c13
                                  try clear c15
                                  try clear c15b0
                                  try clear c15b1
                                  try clear c16
                                  try clear c16b0
                                  try clear c16b1
                                  try clear c20
                                  try clear c20b0
                                  try clear c22
                                  try clear c22b0
                                  try clear c23
                                  try clear c23b0
                                  try clear c24
                                  try clear p24
                                  try clear q24
                                  try clear hx24
                                  try clear hf24
                                  try clear c26
                                  try clear hx26
                                  try clear hf26
                                  try clear c28
                                  try clear c28b0
                                  try clear hx24_0
                                  try clear hx26_0
                                  try clear hx8_0
                                  try clear p2
                                  try clear p24
                                  try clear p6
                                  try clear p8
                                  try clear q2
                                  try clear q24
                                  try clear q8
                                  obtain ⟨x9_5, x11_5, rfl, HA, HK5, HO_9, HB⟩ := hrel
                                  have hl9_5 := (Kd.S_reads' HO_9.out).1
                                  rw [hl9_5] at HO_9
                                  (try simp only [hl9_5])
                                  cases gk with
                                  | zero => exact absurd HA.out (by simp [spec_trCount.l3])
                                  | succ k5 =>
                                    have H := HA.out
                                    clear HA
                                    simp only [spec_trCount.l3] at H
                                    by_cases c29 : x11_5 > 0
                                    · rw [if_pos c29] at H
                                      have c29b0 : decide (0 < x11_5) = true := decide_eq_true c29
                                      clear c29
                                      obtain ⟨ji30, hji30⟩ : ∃ j_ : Int, (wrap64 (a1 + 1)) = j_ := ⟨_, rfl⟩
                                      replace H : (if 0 ≤ (ji30) then (if (ji30 : Int).toNat ≤ 35184372088832 then ((some (List.replicate (ji30 : Int).toNat 0 : List Int)).bind fun y123 => (if 0 < (y123.length : Int) then (spec_trCount.l4 k5 a0 a1 x2_4 x9_5 x11_5 (y123.set (0 : Int).toNat 1) 1) else (none))) else (none)) else (none)) = some r := by first | (rw [hji30] at H; exact H) | (simp only [hji30] at H ⊢; exact H)
                                      have hji30w : (IntKind.i64.wrap (a1 + 1)) = ji30 := (i64_w _).trans hji30
                                      by_cases c31 : 0 ≤ (ji30)
                                      · rw [if_pos c31] at H
                                        have c31b0 := eq_true c31
                                        have c31b1 : decide (0 ≤ (ji30)) = true := decide_eq_true c31
                                        clear c31
                                        by_cases c32 : (ji30 : Int).toNat ≤ 35184372088832
                                        · rw [if_pos c32] at H
                                          have c32b0 := eq_true c32
                                          have c32b1 : decide ((ji30 : Int).toNat ≤ 35184372088832) = true := decide_eq_true c32
                                          clear c32
                                          obtain ⟨y123, hy123⟩ : ∃ y_ : List Int, y_ = (List.replicate (ji30 : Int).toNat 0) := ⟨_, rfl⟩
                                          replace H : (if 0 < (y123.length : Int) then (spec_trCount.l4 k5 a0 a1 x2_4 x9_5 x11_5 (y123.set (0 : Int).toNat 1) 1) else (none)) = some r := by first | (rw [hy123]; with_reducible exact H) | (have H2_ := (Option.bind_some _ _).symm.trans H; rw [hy123]; with_reducible exact H2_) | (have H2_ := (Option.bind_some _ _).symm.trans H; with_reducible exact H2_) | with_reducible exact H | (rw [hy123]; exact H) | exact H
                                          have Ny123 := Aside0.mk hy123
                                          clear hy123
                                          by_cases c33 : 0 < (y123.length : Int)
                                          · rw [if_pos c33] at H
                                            have c33b0 : decide (0 < (y123.length : Int)) = true := decide_eq_true c33
                                            have c33b1 : decide (0 < y123.length) = true := decide_eq_true (by omega)
                                            clear c33
                                            obtain ⟨y126, hy126⟩ : ∃ y_ : List Int, y_ = (y123.set (0 : Int).toNat 1) := ⟨_, rfl⟩
                                            replace H : (spec_trCount.l4 k5 a0 a1 x2_4 x9_5 x11_5 y126 1) = some r := by first | (rw [hy126]; with_reducible exact H) | (have H2_ := (Option.bind_some _ _).symm.trans H; rw [hy126]; with_reducible exact H2_) | (have H2_ := (Option.bind_some _ _).symm.trans H; with_reducible exact H2_) | with_reducible exact H | (rw [hy126]; exact H) | exact H
                                            have Ny126 := Aside0.mk hy126
                                            clear hy126
                                            have H' := Aside0.mk H
                                            clear H
                                            go_wp2_with (first | ((with_reducible refine gate_dst (N := 57) rfl ?_); refine Kd.R_make (Kd.int .i64) _ 3 rfl (N := 57) rfl 27 _ _ rfl ji30 rfl rfl Try.underlying27 (.int .i64 0) 8 info3 rfl (by decide) (by omega) 0 (ok := fun _ => True) (okp := fun _ => True) rfl (fun _ hk => hk) trivial (of_decide_eq_true (by first | (with_reducible assumption) | assumption)) (Nat.le_trans (Nat.mul_le_mul_right _ (of_decide_eq_true (by first | (with_reducible assumption) | assumption) : ji30.toNat ≤ 35184372088832)) (by omega)) (Below.refl _ _) (Nat.le_refl _) ?_; intro v124 w35 ho36 hb hg_ hnew_; clear hg_ hnew_; (first | rw [← Ny123.out] at ho36 | (simp only [Int.reduceToNat] at ho36; rw [← Ny123.out] at ho36)); have n0_ := Aside0.mk (Kd.S_elder' (by (with_reducible repeat (first | apply Kd.S_alloc | apply Kd.S_drewN | apply Kd.S_drew)); exact HO_9.out) (Kd.R_base ho36) hb); have n1_ := Aside0.mk (Kd.R_lower ho36 (below_size (by repeat (first | (with_reducible first | exact HB.out | apply below_alloc | apply pw_below_drewN | apply below_drew1) | exact HB.out)))); have n2_ := Aside0.mk (below_step (by repeat (first | (with_reducible first | exact HB.out | apply below_alloc | apply pw_below_drewN | apply below_drew1) | exact HB.out)) hb); clear HO_9; clear HB; have HO_9 := n0_; have HO125 := n1_; have HB := n2_; clear n0_ n1_ n2_; clear hb ho36; have p34 : 0 ≤ (0 : Int) := (by omega); have q34 : (0 : Int) < ((y123.length : Int) : Int) := of_decide_eq_true (by first | (with_reducible assumption) | assumption); have qi34 : (0 < y123.length) = True := eq_true (by omega); obtain ⟨go34, co34, eo34, gb34, gl34, cl34, HG34⟩ := Kd.R_form HO125.out (by omega); (first | cases eo34 | (injection eo34 with ea_ en_ ec_; (first | subst ea_ | (injection ea_ with ea_; subst ea_)); subst ec_; clear en_)); have GB34 := Aside0.mk gb34; have GG34 := Aside0.mk HG34; clear gb34 gl34 HG34; obtain ⟨hx34_0, hf34_0⟩ := Kd.R_celln 0 HO125.out (0 : Int) p34 q34; (try rw [show ((0 : Int)).toNat = 0 from rfl] at hx34_0); (try simp only [Nat.reduceMul, Nat.zero_mul, Nat.zero_add, Nat.reduceAdd] at hx34_0); (try rw [show ((0 : Int)).toNat = 0 from rfl] at hf34_0); (try simp only [Nat.reduceMul, Nat.zero_mul, Nat.zero_add, Nat.reduceAdd] at hf34_0); replace p34 := eq_true p34; replace q34 := eq_true q34; obtain ⟨hy37_, hz37_⟩ := Kd.R_celln 0 HO125.out (0 : Int) (by omega) (of_decide_eq_true (by first | (with_reducible assumption) | assumption)); (try simp only [Int.reduceToNat, Int.toNat_zero, Int.toNat_ofNat, Nat.reduceMul, Nat.zero_mul, Nat.zero_add] at hy37_ hz37_); (try rw [show ((0 : Int)).toNat = 0 from rfl] at hy37_); (try rw [show ((0 : Int)).toNat = 0 from rfl] at hz37_); have HP37 := Kd.R_putg HO125.out (0 : Int) 1) | ((with_reducible refine gate_store (t := 3) (p := 59) rfl ?_); refine store_event (t := 3) (p := 59) (v := ?vo_w38) (w1 := (w35.setCell ⟨go34, (0 : Int).toNat, none⟩ (.int .i64 1))) ?hg ?ho ?hn ?hr ?_; (case ho => rfl); (case hg => rfl); (case hn => rfl); (case hr => first | (go_simp; done) | (go_simp; rfl)); intro w38 hw; have hg : w35.grownBy w38 (some go34) := (by rw [hw]; exact HP37.2); have hp_ : Kd.R (Kd.int .i64) 3 w38 w.heap.size (fun _ => True) (.slice (some ⟨go34, 0, none⟩) y123.length co34) y126 := (by rw [hw, Ny126.out]; exact HP37.1); clear HP37; have n0_ := Aside0.mk (Kd.S_after (v := (.slice (some ⟨go34, 0, none⟩) y123.length co34)) (v1 := (.slice (some ⟨go34, 0, none⟩) y123.length co34)) (ok := (fun _ => True)) (by (with_reducible repeat (first | apply Kd.S_alloc | apply Kd.S_drewN | apply Kd.S_drew)); exact HO_9.out) hg (.inl rfl)); have n1_ := Aside0.mk (hp_); have n2_ := Aside0.mk ((by rw [hw]; exact below_set (HB.out) GB34.out : Below w.heap.size w w38)); clear HO_9; clear HO125; clear HB; have HO_9 := n0_; have HO125 := n1_; have HB := n2_; clear n0_ n1_ n2_; clear hg hw hp_))
                                            go_loopg [13] k5 (fun kq v13 w' => ∃ (x12_6 : List Int) (x13_6 : Int), v13 = .int .i64 x13_6 ∧ Aside0 (spec_trCount.l4 kq a0 a1 x2_4 x9_5 x11_5 x12_6 x13_6 = some r) ∧ Aside0 (kq ≤ k5) ∧ Aside0 (Kd.S (Kd.slice 3 (Kd.int .i64)) 27 w' w.heap.size (fun k_ => some k_ ≠ ((.slice (some ⟨go34, 0, none⟩) y123.length co34) : Value).ownBlock) (.slice Ao19 x9_5.length co19) x9_5) ∧ Aside0 (Kd.R (Kd.int .i64) 3 w' w.heap.size (fun _ => True) (.slice (some ⟨go34, 0, none⟩) y123.length co34) x12_6) ∧ Aside0 (Below w.heap.size w w'))
                                            case atStart => exact ⟨(y126), (1), (by first | rfl | (simp; done) | (simp [*]; done)), H', ⟨Nat.le_refl _⟩, ⟨by (try simp only [hl7_8]); (try simp only [hl9_3]); (try simp only [hl9_4]); (try simp only [hl9_5]); (with_reducible repeat (first | apply Kd.S_alloc | apply Kd.S_drewN | apply Kd.S_drew)); exact Kd.S_mono HO_9.out (fun _ hk => hk.2)⟩, ⟨by (try simp only [hl7_8]); (try simp only [hl9_3]); (try simp only [hl9_4]); (try simp only [hl9_5]); (with_reducible repeat (first | apply Kd.R_alloc | apply Kd.R_drewN | apply Kd.R_drew)); exact HO125.out⟩, ⟨by repeat (first | (with_reducible first | exact HB.out | apply below_alloc | apply pw_below_drewN | apply below_drew1) | exact HB.out)⟩⟩
                                            case round =>
                                              clear H'
                                              try clear c1
                                              try clear c2
                                              try clear p2
                                              try clear q2
                                              try clear hx2
                                              try clear c3
                                              try clear p3
                                              try clear q3
                                              try clear hx3
                                              try clear qi3
                                              try clear hf3
                                              try clear c4
                                              try clear c4b0
                                              try clear c5
                                              try clear c6
                                              try clear p6
                                              try clear c7
                                              try clear c7b0
                                              try clear c7b1
                                              try clear p8
                                              try clear q8
                                              try clear hx8
                                              try clear qi8
                                              try clear hf8
                                              try clear c12
                                              try clear c12b0
                                              try clear c12b1
                                              try clear c13
                                              try clear c15
                                              try clear c15b0
                                              try clear c15b1
                                              try clear c16
                                              try clear c16b0
                                              try clear c16b1
                                              try clear c20
                                              try clear c20b0
                                              try clear c22
                                              try clear c22b0
                                              try clear c23
                                              try clear c23b0
                                              try clear c24
                                              try clear p24
                                              try clear q24
                                              try clear hx24
                                              try clear hf24
                                              try clear c26
                                              try clear hx26
                                              try clear hf26
                                              try clear c28
                                              try clear c28b0
                                              try clear c29
                                              try clear c29b0
                                              try clear c31
                                              try clear c31b0
                                              try clear c31b1
                                              try clear c32
                                              try clear c32b0
                                              try clear c32b1
                                              try clear c33
                                              try clear c33b0
                                              try clear c33b1
                                              try clear p34
                                              try clear q34
                                              try clear hx34
                                              try clear qi34
                                              try clear hf34
                                              try clear hx24_0
                                              try clear hx26_0
                                              try clear hx34_0
                                              try clear hx8_0
                                              try clear p2
                                              try clear p24
                                              try clear p34
                                              try clear p6
                                              try clear p8
                                              try clear q2
                                              try clear q24
                                              try clear q34
                                              try clear q8
                                              obtain ⟨x12_6, x13_6, rfl, HA, HK6, HO_9, HO_12, HB⟩ := hrel
                                              have hl12_6 := (Kd.R_reads' HO_12.out).1
                                              rw [hl12_6] at HO_12
                                              (try simp only [hl12_6])
                                              (try simp only [hl12_6] at HO_9)
                                              cases gk with
                                              | zero => exact absurd HA.out (by simp [spec_trCount.l4])
                                              | succ k6 =>
                                                have H := HA.out
                                                clear HA
                                                simp only [spec_trCount.l4] at H
                                                by_cases c39 : x13_6 ≤ a1
                                                · rw [if_pos c39] at H
                                                  have c39b0 : decide (x13_6 ≤ a1) = true := decide_eq_true c39
                                                  clear c39
                                                  have H' := Aside0.mk H
                                                  clear H
                                                  go_wp2
                                                  go_loopg [14] k6 (fun kq v14 w' => ∃ (x12_7 : List Int) (x14_7 : Int), v14 = .int .i64 x14_7 ∧ Aside0 (spec_trCount.l5 kq a0 a1 x2_4 x9_5 x11_5 x12_7 x13_6 x14_7 = some r) ∧ Aside0 (kq ≤ k6) ∧ Aside0 (Kd.S (Kd.slice 3 (Kd.int .i64)) 27 w' w.heap.size (fun k_ => some k_ ≠ ((.slice (some ⟨go34, 0, none⟩) x12_6.length co34) : Value).ownBlock) (.slice Ao19 x9_5.length co19) x9_5) ∧ Aside0 (Kd.R (Kd.int .i64) 3 w' w.heap.size (fun _ => True) (.slice (some ⟨go34, 0, none⟩) x12_6.length co34) x12_7) ∧ Aside0 (Below w.heap.size w w'))
                                                  case atStart => exact ⟨(x12_6), (0), (by first | rfl | (simp; done) | (simp [*]; done)), H', ⟨Nat.le_refl _⟩, ⟨by (try simp only [hl7_8]); (try simp only [hl9_3]); (try simp only [hl9_4]); (try simp only [hl9_5]); (try simp only [hl12_6]); (with_reducible repeat (first | apply Kd.S_alloc | apply Kd.S_drewN | apply Kd.S_drew)); exact HO_9.out⟩, ⟨by (try simp only [hl7_8]); (try simp only [hl9_3]); (try simp only [hl9_4]); (try simp only [hl9_5]); (try simp only [hl12_6]); (with_reducible repeat (first | apply Kd.R_alloc | apply Kd.R_drewN | apply Kd.R_drew)); exact HO_12.out⟩, ⟨by repeat (first | (with_reducible first | exact HB.out | apply below_alloc | apply pw_below_drewN | apply below_drew1) | exact HB.out)⟩⟩
                                                  case round =>
                                                    clear H'
                                                    try clear c1
                                                    try clear c2
                                                    try clear p2
                                                    try clear q2
                                                    try clear hx2
                                                    try clear c3
                                                    try clear p3
                                                    try clear q3
                                                    try clear hx3
                                                    try clear qi3
                                                    try clear hf3
                                                    try clear c4
                                                    try clear c4b0
                                                    try clear c5
                                                    try clear c6
                                                    try clear p6
                                                    try clear c7
                                                    try clear c7b0
                                                    try clear c7b1
                                                    try clear p8
                                                    try clear q8
                                                    try clear hx8
                                                    try clear qi8
                                                    try clear hf8
                                                    try clear c12
                                                    try clear c12b0
                                                    try clear c12b1
                                                    try clear c13
                                                    try clear c15
                                                    try clear c15b0
                                                    try clear c15b1
                                                    try clear c16
                                                    try clear c16b0
                                                    try clear c16b1
                                                    try clear c20
                                                    try clear c20b0
                                                    try clear c22
                                                    try clear c22b0
                                                    try clear c23
                                                    try clear c23b0
                                                    try clear c24
                                                    try clear p24
                                                    try clear q24
                                                    try clear hx24
                                                    try clear hf24
                                                    try clear c26
                                                    try clear hx26
                                                    try clear hf26
                                                    try clear c28
                                                    try clear c28b0
                                                    try clear c29
                                                    try clear c29b0
                                                    try clear c31
                                                    try clear c31b0
                                                    try clear c31b1
                                                    try clear c32
                                                    try clear c32b0
                                                    try clear c32b1
                                                    try clear c33
                                                    try clear c33b0
                                                    try clear c33b1
                                                    try clear p34
                                                    try clear q34
                                                    try clear hx34
                                                    try clear qi34
                                                    try clear hf34
                                                    try clear c39
                                                    try clear c39b0
                                                    try clear hx24_0
                                                    try clear hx26_0
                                                    try clear hx34_0
                                                    try clear hx8_0
                                                    try clear p2
                                                    try clear p24
                                                    try clear p3
                                                    try clear p34
                                                    try clear p6
                                                    try clear p8
                                                    try clear q2
                                                    try clear q24
                                                    try clear q3
                                                    try clear q34
                                                    try clear q8
                                                    obtain ⟨x12_7, x14_7, rfl, HA, HK7, HO_9, HO_12, HB⟩ := hrel
                                                    have hl12_7 := (Kd.R_reads' HO_12.out).1
                                                    rw [hl12_7] at HO_12
                                                    (try simp only [hl12_7])
                                                    (try simp only [hl12_7] at HO_9)
                                                    cases gk with
                                                    | zero => exact absurd HA.out (by simp [spec_trCount.l5])
                                                    | succ k7 =>
                                                      have H := HA.out
                                                      clear HA
                                                      simp only [spec_trCount.l5] at H
                                                      by_cases c40 : x14_7 < x13_6
                                                      · rw [if_pos c40] at H
                                                        have c40b0 : decide (x14_7 < x13_6) = true := decide_eq_true c40
                                                        clear c40
                                                        by_cases c41 : 0 ≤ x13_6
                                                        · rw [if_pos c41] at H
                                                          have c41b0 : decide (0 ≤ x13_6) = true := decide_eq_true c41
                                                          clear c41
                                                          by_cases c42 : x13_6 < (x12_7.length : Int)
                                                          · rw [if_pos c42] at H
                                                            have c42b0 : decide (x13_6 < (x12_7.length : Int)) = true := decide_eq_true c42
                                                            clear c42
                                                            obtain ⟨ji43, hji43⟩ : ∃ j_ : Int, (wrap64 (x11_5 - 1)) = j_ := ⟨_, rfl⟩
                                                            replace H : (if 0 ≤ (ji43) then (if (ji43) < (x9_5.length : Int) then (if 0 ≤ x14_7 then (if x14_7 < ((rd_L1 x9_5 (ji43)).length : Int) then (if 0 ≤ x11_5 then (if x11_5 < (x9_5.length : Int) then (if 0 ≤ (wrap64 ((wrap64 (x13_6 - 1)) - x14_7)) then (if (wrap64 ((wrap64 (x13_6 - 1)) - x14_7)) < ((rd_L1 x9_5 x11_5).length : Int) then ((spec_trSum.f (rd x12_7 x13_6) (rd (rd_L1 x9_5 (ji43)) x14_7) (rd (rd_L1 x9_5 x11_5) (wrap64 ((wrap64 (x13_6 - 1)) - x14_7)))).bind fun t133 => (spec_trCount.l5 k7 a0 a1 x2_4 x9_5 x11_5 (x12_7.set (x13_6 : Int).toNat t133) x13_6 (wrap64 (x14_7 + 1)))) else (none)) else (none)) else (none)) else (none)) else (none)) else (none)) else (none)) else (none)) = some r := by first | (rw [hji43] at H; exact H) | (simp only [hji43] at H ⊢; exact H)
                                                            have hji43w : (IntKind.i64.wrap (x11_5 - 1)) = ji43 := (i64_w _).trans hji43
                                                            by_cases c44 : 0 ≤ (ji43)
                                                            · rw [if_pos c44] at H
                                                              have c44b0 : decide (0 ≤ (ji43)) = true := decide_eq_true c44
                                                              clear c44
                                                              by_cases c45 : (ji43) < (x9_5.length : Int)
                                                              · rw [if_pos c45] at H
                                                                have c45b0 : decide ((ji43) < (x9_5.length : Int)) = true := decide_eq_true c45
                                                                clear c45
                                                                by_cases c46 : 0 ≤ x14_7
                                                                · rw [if_pos c46] at H
                                                                  have c46b0 : decide (0 ≤ x14_7) = true := decide_eq_true c46
                                                                  clear c46
                                                                  by_cases c47 : x14_7 < ((rd_L1 x9_5 (ji43)).length : Int)
                                                                  · rw [if_pos c47] at H
                                                                    have c47b0 : decide (x14_7 < ((rd_L1 x9_5 (ji43)).length : Int)) = true := decide_eq_true c47
                                                                    clear c47
                                                                    by_cases c48 : 0 ≤ x11_5
                                                                    · rw [if_pos c48] at H
                                                                      have c48b0 : decide (0 ≤ x11_5) = true := decide_eq_true c48
                                                                      clear c48
                                                                      by_cases c49 : x11_5 < (x9_5.length : Int)
                                                                      · rw [if_pos c49] at H
                                                                        have c49b0 : decide (x11_5 < (x9_5.length : Int)) = true := decide_eq_true c49
                                                                        clear c49
                                                                        obtain ⟨ji50, hji50⟩ : ∃ j_ : Int, (wrap64 ((wrap64 (x13_6 - 1)) - x14_7)) = j_ := ⟨_, rfl⟩
                                                                        replace H : (if 0 ≤ (ji50) then (if (ji50) < ((rd_L1 x9_5 x11_5).length : Int) then ((spec_trSum.f (rd x12_7 x13_6) (rd (rd_L1 x9_5 (ji43)) x14_7) (rd (rd_L1 x9_5 x11_5) (ji50))).bind fun t133 => (spec_trCount.l5 k7 a0 a1 x2_4 x9_5 x11_5 (x12_7.set (x13_6 : Int).toNat t133) x13_6 (wrap64 (x14_7 + 1)))) else (none)) else (none)) = some r := by first | (rw [hji50] at H; exact H) | (simp only [hji50] at H ⊢; exact H)
                                                                        have hji50w : (IntKind.i64.wrap ((wrap64 (x13_6 - 1)) - x14_7)) = ji50 := (i64_w _).trans hji50
                                                                        by_cases c51 : 0 ≤ (ji50)
                                                                        · rw [if_pos c51] at H
                                                                          have c51b0 : decide (0 ≤ (ji50)) = true := decide_eq_true c51
                                                                          clear c51
                                                                          by_cases c52 : (ji50) < ((rd_L1 x9_5 x11_5).length : Int)
                                                                          · rw [if_pos c52] at H
                                                                            have c52b0 : decide ((ji50) < ((rd_L1 x9_5 x11_5).length : Int)) = true := decide_eq_true c52
                                                                            clear c52
                                                                            replace H := Option.bind_eq_some_iff.mp H
                                                                            obtain ⟨t133, A530, H⟩ := H
                                                                            replace H : (spec_trCount.l5 k7 a0 a1 x2_4 x9_5 x11_5 (x12_7.set (x13_6 : Int).toNat t133) x13_6 (wrap64 (x14_7 + 1))) = some r := H
                                                                            have A53 := Aside0.mk A530
                                                                            clear A530
                                                                            obtain ⟨y134, hy134⟩ : ∃ y_ : List Int, y_ = (x12_7.set (x13_6 : Int).toNat t133) := ⟨_, rfl⟩
                                                                            replace H : (spec_trCount.l5 k7 a0 a1 x2_4 x9_5 x11_5 y134 x13_6 (wrap64 (x14_7 + 1))) = some r := by first | (rw [hy134]; with_reducible exact H) | (have H2_ := (Option.bind_some _ _).symm.trans H; rw [hy134]; with_reducible exact H2_) | (have H2_ := (Option.bind_some _ _).symm.trans H; with_reducible exact H2_) | with_reducible exact H | (rw [hy134]; exact H) | exact H
                                                                            have Ny134 := Aside0.mk hy134
                                                                            clear hy134
                                                                            have H' := Aside0.mk H
                                                                            clear H
                                                                            try go_wp2
                                                                            have n0_ := Aside0.mk (Kd.S_drew HO_9.out)
                                                                            have n1_ := Aside0.mk (Kd.R_drew HO_12.out)
                                                                            have n2_ := Aside0.mk (below_drew1 HB.out)
                                                                            clear HO_9
                                                                            clear HO_12
                                                                            clear HB
                                                                            have HO_9 := n0_
                                                                            have HO_12 := n1_
                                                                            have HB := n2_
                                                                            clear n0_ n1_ n2_
                                                                            have p128 : 0 ≤ (x13_6 : Int) := of_decide_eq_true (by first | (with_reducible assumption) | assumption)
                                                                            have q128 : x13_6 < (x12_7.length : Int) := of_decide_eq_true (by first | (with_reducible assumption) | assumption)
                                                                            obtain ⟨ad128, e128, hx128_0⟩ := Kd.at_int (Kd.R_reads' HO_12.out).2.2 x13_6 p128 q128
                                                                            obtain rfl : (⟨go34, 0, none⟩ : Addr) = ad128 := (by injection e128)
                                                                            (first | simp only [add_plain] at hx128_0 | simp only [add_at] at hx128_0 | simp only [Addr.add, Nat.zero_add] at hx128_0 | skip)
                                                                            replace p128 := eq_true p128
                                                                            replace q128 := eq_true q128
                                                                            have p129 : 0 ≤ ((ji43) : Int) := of_decide_eq_true (by first | (with_reducible assumption) | assumption)
                                                                            have q129 : (ji43) < (x9_5.length : Int) := of_decide_eq_true (by first | (with_reducible assumption) | assumption)
                                                                            obtain ⟨ad129, A129_0, c129_0, e129, hx129_0, hl129_0, hi129_0⟩ := at_L1 (Kd.S_reads' HO_9.out).2.2 (ji43) p129 q129
                                                                            cases e129
                                                                            obtain ⟨ce129, hce129, hMe129, hcc129⟩ := Kd.S_get HO_9.out [] (ji43) p129 (by first | exact q129 | exact of_decide_eq_true (by first | (with_reducible assumption) | assumption) | (have e_ := (Kd.S_reads' HO_9.out).1; omega))
                                                                            obtain ⟨ve129_0, rfl, ge129_0⟩ := hMe129
                                                                            have hv129_0 := hcc129 0 _ rfl
                                                                            rw [Nat.add_zero, show ((Kd.slice 3 (Kd.int .i64))).sz = 1 from rfl, Nat.mul_one] at hv129_0
                                                                            replace hv129_0 := Option.some.inj (hv129_0.symm.trans hx129_0)
                                                                            rw [hv129_0] at ge129_0
                                                                            have HL129_0 := Aside0.mk (show Kd.R (Kd.int .i64) 3 _ _ _ _ (rd_L1 x9_5 (ji43)) from ge129_0)
                                                                            clear hv129_0 ge129_0
                                                                            clear hcc129 hce129
                                                                            have HR129_0 := Aside0.mk hi129_0
                                                                            have HC129_0 := Aside0.mk hl129_0
                                                                            clear hi129_0 hl129_0
                                                                            replace p129 := eq_true p129
                                                                            replace q129 := eq_true q129
                                                                            have p130 : 0 ≤ (x14_7 : Int) := of_decide_eq_true (by first | (with_reducible assumption) | assumption)
                                                                            have q130 : x14_7 < ((rd_L1 x9_5 (ji43)).length : Int) := of_decide_eq_true (by first | (with_reducible assumption) | assumption)
                                                                            obtain ⟨ad130, e130, hx130_0⟩ := Kd.at_int (by repeat (first | (with_reducible exact HR129_0.out) | (with_reducible refine Kd.C_alloc ?_ _) | (with_reducible refine Kd.C_drewN ?_ _) | (with_reducible refine Kd.C_drew ?_) | exact HR129_0.out)) x14_7 p130 q130
                                                                            cases e130
                                                                            replace p130 := eq_true p130
                                                                            replace q130 := eq_true q130
                                                                            have p131 : 0 ≤ (x11_5 : Int) := of_decide_eq_true (by first | (with_reducible assumption) | assumption)
                                                                            have q131 : x11_5 < (x9_5.length : Int) := of_decide_eq_true (by first | (with_reducible assumption) | assumption)
                                                                            obtain ⟨ad131, A131_0, c131_0, e131, hx131_0, hl131_0, hi131_0⟩ := at_L1 (Kd.S_reads' HO_9.out).2.2 x11_5 p131 q131
                                                                            obtain rfl : ad129 = ad131 := (by injection e131)
                                                                            obtain ⟨ce131, hce131, hMe131, hcc131⟩ := Kd.S_get HO_9.out [] x11_5 p131 (by first | exact q131 | exact of_decide_eq_true (by first | (with_reducible assumption) | assumption) | (have e_ := (Kd.S_reads' HO_9.out).1; omega))
                                                                            obtain ⟨ve131_0, rfl, ge131_0⟩ := hMe131
                                                                            have hv131_0 := hcc131 0 _ rfl
                                                                            rw [Nat.add_zero, show ((Kd.slice 3 (Kd.int .i64))).sz = 1 from rfl, Nat.mul_one] at hv131_0
                                                                            replace hv131_0 := Option.some.inj (hv131_0.symm.trans hx131_0)
                                                                            rw [hv131_0] at ge131_0
                                                                            have HL131_0 := Aside0.mk (show Kd.R (Kd.int .i64) 3 _ _ _ _ (rd_L1 x9_5 x11_5) from ge131_0)
                                                                            clear hv131_0 ge131_0
                                                                            clear hcc131 hce131
                                                                            have HR131_0 := Aside0.mk hi131_0
                                                                            have HC131_0 := Aside0.mk hl131_0
                                                                            clear hi131_0 hl131_0
                                                                            replace p131 := eq_true p131
                                                                            replace q131 := eq_true q131
                                                                            have p132 : 0 ≤ ((ji50) : Int) := of_decide_eq_true (by first | (with_reducible assumption) | assumption)
                                                                            have q132 : (ji50) < ((rd_L1 x9_5 x11_5).length : Int) := of_decide_eq_true (by first | (with_reducible assumption) | assumption)
                                                                            obtain ⟨ad132, e132, hx132_0⟩ := Kd.at_int (by repeat (first | (with_reducible exact HR131_0.out) | (with_reducible refine Kd.C_alloc ?_ _) | (with_reducible refine Kd.C_drewN ?_ _) | (with_reducible refine Kd.C_drew ?_) | exact HR131_0.out)) (ji50) p132 q132
                                                                            cases e132
                                                                            replace p132 := eq_true p132
                                                                            replace q132 := eq_true q132
                                                                            refine start_ (n := 27) (S := fun w' => w'.cell? ⟨go34, (x13_6).toNat, none⟩ = some (.int .i64 (rd x12_7 x13_6)) ∧ w'.cell? (ad129.add ((ji43)).toNat) = some (.slice (some ad130) (rd_L1 x9_5 (ji43)).length c129_0) ∧ w'.cell? (ad130.add (x14_7).toNat) = some (.int .i64 (rd (rd_L1 x9_5 (ji43)) x14_7)) ∧ w'.cell? (ad129.add (x11_5).toNat) = some (.slice (some ad132) (rd_L1 x9_5 x11_5).length c131_0) ∧ w'.cell? (ad132.add ((ji50)).toNat) = some (.int .i64 (rd (rd_L1 x9_5 x11_5) (ji50)))) (ds := [26]) #[false, false, false, false, false, false, false, false, false, false, false, false, false, false, false, false, false, false, false, false, false, false, false, false, false, false, false] (by kernel_rfl) rfl rfl ⟨hx128_0, hx129_0, hx130_0, hx131_0, hx132_0⟩ (fun hHeld => ?_); refine with_tabW spec_trCount.tab28 spec_trCount.bits28 (fun HT_ HW_ => ?_)
                                                                            generalize wr.drew = w55 at HO_9 HO_12 HB HL129_0 HL131_0 HR129_0 HR131_0 hx128_0 hx129_0 hx130_0 hx131_0 hx132_0 hHeld ⊢
                                                                            refine pure_ (i := 0) (N := some 70) (v := ?_) (a' := ?_) #[true, false, false, false, false, false, false, false, false, false, false, false, false, false, false, false, false, false, false, false, false, false, false, false, false, false, false] rfl rfl (any_of HT_.out (by kernel_rfl)) (fun _ _ _ h => h) (Or.inl ⟨by rfl, ?_⟩) ?_ ?_
                                                                            rotate_left
                                                                            · intro w'
                                                                              go_simp
                                                                              with_reducible rfl
                                                                            rotate_left
                                                                            · simp only [Act.put, List.setIfInBounds_toArray, List.set_cons_zero, List.set_cons_succ, i64_w, i32_w]
                                                                              rfl
                                                                            refine pure_ (i := 1) (N := some 71) (v := ?_) (a' := ?_) #[true, true, false, false, false, false, false, false, false, false, false, false, false, false, false, false, false, false, false, false, false, false, false, false, false, false, false] rfl rfl (any_of HT_.out (by kernel_rfl)) (fun _ _ _ h => h) (Or.inl ⟨by rfl, ?_⟩) ?_ ?_
                                                                            rotate_left
                                                                            · intro w'
                                                                              go_simp
                                                                              with_reducible rfl
                                                                            rotate_left
                                                                            · simp only [Act.put, List.setIfInBounds_toArray, List.set_cons_zero, List.set_cons_succ, i64_w, i32_w]
                                                                              rfl
                                                                            refine pure_ (i := 2) (N := some 72) (v := ?_) (a' := ?_) #[true, true, true, false, false, false, false, false, false, false, false, false, false, false, false, false, false, false, false, false, false, false, false, false, false, false, false] rfl rfl (any_of HT_.out (by kernel_rfl)) (fun _ _ _ h => h) (Or.inl ⟨by rfl, ?_⟩) ?_ ?_
                                                                            rotate_left
                                                                            · intro w'
                                                                              go_simp
                                                                              with_reducible rfl
                                                                            rotate_left
                                                                            · simp only [Act.put, List.setIfInBounds_toArray, List.set_cons_zero, List.set_cons_succ, i64_w, i32_w]
                                                                              rfl
                                                                            refine pure_ (i := 3) (N := some 73) (v := ?_) (a' := ?_) #[true, true, true, true, false, false, false, false, false, false, false, false, false, false, false, false, false, false, false, false, false, false, false, false, false, false, false] rfl rfl (any_of HT_.out (by kernel_rfl)) (fun _ _ _ h => h) (Or.inl ⟨by rfl, ?_⟩) ?_ ?_
                                                                            rotate_left
                                                                            · intro w'
                                                                              go_simp
                                                                              with_reducible rfl
                                                                            rotate_left
                                                                            · simp only [Act.put, List.setIfInBounds_toArray, List.set_cons_zero, List.set_cons_succ, i64_w, i32_w]
                                                                              rfl
                                                                            refine pure_ (i := 4) (N := some 74) (v := ?_) (a' := ?_) #[true, true, true, true, true, false, false, false, false, false, false, false, false, false, false, false, false, false, false, false, false, false, false, false, false, false, false] rfl rfl (any_of HT_.out (by kernel_rfl)) (fun _ _ _ h => h) (Or.inl ⟨by rfl, ?_⟩) ?_ ?_
                                                                            rotate_left
                                                                            · intro w'
                                                                              go_simp
                                                                              with_reducible rfl
                                                                            rotate_left
                                                                            · simp only [Act.put, List.setIfInBounds_toArray, List.set_cons_zero, List.set_cons_succ, i64_w, i32_w]
                                                                              rfl
                                                                            refine pure_ (i := 6) (N := some 76) (v := ?_) (a' := ?_) #[true, true, true, true, true, false, true, false, false, false, false, false, false, false, false, false, false, false, false, false, false, false, false, false, false, false, false] rfl rfl (any_of HT_.out (by kernel_rfl)) (fun _ _ _ h => h) (Or.inl ⟨by rfl, ?_⟩) ?_ ?_
                                                                            rotate_left
                                                                            · intro w'
                                                                              go_simp
                                                                              with_reducible rfl
                                                                            rotate_left
                                                                            · simp only [Act.put, List.setIfInBounds_toArray, List.set_cons_zero, List.set_cons_succ, i64_w, i32_w]
                                                                              rfl
                                                                            refine pure_ (i := 7) (N := some 77) (v := ?_) (a' := ?_) #[true, true, true, true, true, false, true, true, false, false, false, false, false, false, false, false, false, false, false, false, false, false, false, false, false, false, false] rfl rfl (any_of HT_.out (by kernel_rfl)) (fun _ _ _ h => h) (Or.inl ⟨by rfl, ?_⟩) ?_ ?_
                                                                            rotate_left
                                                                            · intro w'
                                                                              go_simp
                                                                              with_reducible rfl
                                                                            rotate_left
                                                                            · simp only [Act.put, List.setIfInBounds_toArray, List.set_cons_zero, List.set_cons_succ, i64_w, i32_w]
                                                                              rfl
                                                                            refine pure_ (i := 8) (N := some 78) (v := ?_) (a' := ?_) #[true, true, true, true, true, false, true, true, true, false, false, false, false, false, false, false, false, false, false, false, false, false, false, false, false, false, false] rfl rfl (any_of HT_.out (by kernel_rfl)) (fun _ _ _ h => h) (Or.inl ⟨by rfl, ?_⟩) ?_ ?_
                                                                            rotate_left
                                                                            · intro w'
                                                                              go_simp
                                                                              with_reducible rfl
                                                                            rotate_left
                                                                            · simp only [Act.put, List.setIfInBounds_toArray, List.set_cons_zero, List.set_cons_succ, i64_w, i32_w]
                                                                              rfl
                                                                            refine pure_ (i := 9) (N := some 79) (v := ?_) (a' := ?_) #[true, true, true, true, true, false, true, true, true, true, false, false, false, false, false, false, false, false, false, false, false, false, false, false, false, false, false] rfl rfl (any_of HT_.out (by kernel_rfl)) (fun _ _ _ h => h) (Or.inl ⟨by rfl, ?_⟩) ?_ ?_
                                                                            rotate_left
                                                                            · intro w'
                                                                              go_simp
                                                                              with_reducible rfl
                                                                            rotate_left
                                                                            · simp only [Act.put, List.setIfInBounds_toArray, List.set_cons_zero, List.set_cons_succ, i64_w, i32_w]
                                                                              rfl
                                                                            refine pure_ (i := 11) (N := some 81) (v := ?_) (a' := ?_) #[true, true, true, true, true, false, true, true, true, true, false, true, false, false, false, false, false, false, false, false, false, false, false, false, false, false, false] rfl rfl (any_of HT_.out (by kernel_rfl)) (fun _ _ _ h => h) (Or.inl ⟨by rfl, ?_⟩) ?_ ?_
                                                                            rotate_left
                                                                            · intro w'
                                                                              go_simp
                                                                              with_reducible rfl
                                                                            rotate_left
                                                                            · simp only [Act.put, List.setIfInBounds_toArray, List.set_cons_zero, List.set_cons_succ, i64_w, i32_w]
                                                                              rfl
                                                                            refine pure_ (i := 14) (N := some 84) (v := ?_) (a' := ?_) #[true, true, true, true, true, false, true, true, true, true, false, true, false, false, true, false, false, false, false, false, false, false, false, false, false, false, false] rfl rfl (any_of HT_.out (by kernel_rfl)) (fun _ _ _ h => h) (Or.inl ⟨by rfl, ?_⟩) ?_ ?_
                                                                            rotate_left
                                                                            · intro w'
                                                                              go_simp
                                                                              with_reducible rfl
                                                                            rotate_left
                                                                            · simp only [Act.put, List.setIfInBounds_toArray, List.set_cons_zero, List.set_cons_succ, i64_w, i32_w]
                                                                              rfl
                                                                            refine pure_ (i := 15) (N := some 85) (v := ?_) (a' := ?_) #[true, true, true, true, true, false, true, true, true, true, false, true, false, false, true, true, false, false, false, false, false, false, false, false, false, false, false] rfl rfl (any_of HT_.out (by kernel_rfl)) (fun _ _ _ h => h) (Or.inl ⟨by rfl, ?_⟩) ?_ ?_
                                                                            rotate_left
                                                                            · intro w'
                                                                              go_simp
                                                                              with_reducible rfl
                                                                            rotate_left
                                                                            · simp only [Act.put, List.setIfInBounds_toArray, List.set_cons_zero, List.set_cons_succ, i64_w, i32_w]
                                                                              rfl
                                                                            refine pure_ (i := 16) (N := some 86) (v := ?_) (a' := ?_) #[true, true, true, true, true, false, true, true, true, true, false, true, false, false, true, true, true, false, false, false, false, false, false, false, false, false, false] rfl rfl (any_of HT_.out (by kernel_rfl)) (fun _ _ _ h => h) (Or.inl ⟨by rfl, ?_⟩) ?_ ?_
                                                                            rotate_left
                                                                            · intro w'
                                                                              go_simp
                                                                              with_reducible rfl
                                                                            rotate_left
                                                                            · simp only [Act.put, List.setIfInBounds_toArray, List.set_cons_zero, List.set_cons_succ, i64_w, i32_w]
                                                                              rfl
                                                                            refine pure_ (i := 18) (N := some 88) (v := ?_) (a' := ?_) #[true, true, true, true, true, false, true, true, true, true, false, true, false, false, true, true, true, false, true, false, false, false, false, false, false, false, false] rfl rfl (any_of HT_.out (by kernel_rfl)) (fun _ _ _ h => h) (Or.inl ⟨by rfl, ?_⟩) ?_ ?_
                                                                            rotate_left
                                                                            · intro w'
                                                                              go_simp
                                                                              with_reducible rfl
                                                                            rotate_left
                                                                            · simp only [Act.put, List.setIfInBounds_toArray, List.set_cons_zero, List.set_cons_succ, i64_w, i32_w]
                                                                              rfl
                                                                            refine pure_ (i := 19) (N := some 89) (v := ?_) (a' := ?_) #[true, true, true, true, true, false, true, true, true, true, false, true, false, false, true, true, true, false, true, true, false, false, false, false, false, false, false] rfl rfl (any_of HT_.out (by kernel_rfl)) (fun _ _ _ h => h) (Or.inl ⟨by rfl, ?_⟩) ?_ ?_
                                                                            rotate_left
                                                                            · intro w'
                                                                              go_simp
                                                                              with_reducible rfl
                                                                            rotate_left
                                                                            · simp only [Act.put, List.setIfInBounds_toArray, List.set_cons_zero, List.set_cons_succ, i64_w, i32_w]
                                                                              rfl
                                                                            refine pure_ (i := 20) (N := some 90) (v := ?_) (a' := ?_) #[true, true, true, true, true, false, true, true, true, true, false, true, false, false, true, true, true, false, true, true, true, false, false, false, false, false, false] rfl rfl (any_of HT_.out (by kernel_rfl)) (fun _ _ _ h => h) (Or.inl ⟨by rfl, ?_⟩) ?_ ?_
                                                                            rotate_left
                                                                            · intro w'
                                                                              go_simp
                                                                              with_reducible rfl
                                                                            rotate_left
                                                                            · simp only [Act.put, List.setIfInBounds_toArray, List.set_cons_zero, List.set_cons_succ, i64_w, i32_w]
                                                                              rfl
                                                                            refine pure_ (i := 21) (N := some 91) (v := ?_) (a' := ?_) #[true, true, true, true, true, false, true, true, true, true, false, true, false, false, true, true, true, false, true, true, true, true, false, false, false, false, false] rfl rfl (any_of HT_.out (by kernel_rfl)) (fun _ _ _ h => h) (Or.inl ⟨by rfl, ?_⟩) ?_ ?_
                                                                            rotate_left
                                                                            · intro w'
                                                                              go_simp
                                                                              with_reducible rfl
                                                                            rotate_left
                                                                            · simp only [Act.put, List.setIfInBounds_toArray, List.set_cons_zero, List.set_cons_succ, i64_w, i32_w]
                                                                              rfl
                                                                            refine take_ (i := 5) (N := some 75) (v := ?_) (a' := ?_) #[true, true, true, true, true, true, true, true, true, true, false, true, false, false, true, true, true, false, true, true, true, true, false, false, false, false, false] rfl rfl (take_ofW HT_.out HW_.out (by kernel_rfl)) (fun _ _ _ h => h) (Or.inl ⟨by rfl, ?_⟩) hHeld ?_ ?_
                                                                            rotate_left
                                                                            · rintro w' ⟨s0, s1, s2, s3, s4⟩
                                                                              go_simp
                                                                              with_reducible rfl
                                                                            rotate_left
                                                                            · simp only [Act.put, List.setIfInBounds_toArray, List.set_cons_zero, List.set_cons_succ, i64_w, i32_w]
                                                                              rfl
                                                                            refine take_ (i := 10) (N := some 80) (v := ?_) (a' := ?_) #[true, true, true, true, true, true, true, true, true, true, true, true, false, false, true, true, true, false, true, true, true, true, false, false, false, false, false] rfl rfl (take_ofW HT_.out HW_.out (by kernel_rfl)) (fun _ _ _ h => h) (Or.inl ⟨by rfl, ?_⟩) hHeld ?_ ?_
                                                                            rotate_left
                                                                            · rintro w' ⟨s0, s1, s2, s3, s4⟩
                                                                              go_simp
                                                                              with_reducible rfl
                                                                            rotate_left
                                                                            · simp only [Act.put, List.setIfInBounds_toArray, List.set_cons_zero, List.set_cons_succ, i64_w, i32_w]
                                                                              rfl
                                                                            refine pure_ (i := 12) (N := some 82) (v := ?_) (a' := ?_) #[true, true, true, true, true, true, true, true, true, true, true, true, true, false, true, true, true, false, true, true, true, true, false, false, false, false, false] rfl rfl (any_of HT_.out (by kernel_rfl)) (fun _ _ _ h => h) (Or.inl ⟨by rfl, ?_⟩) ?_ ?_
                                                                            rotate_left
                                                                            · intro w'
                                                                              go_simp
                                                                              with_reducible rfl
                                                                            rotate_left
                                                                            · simp only [Act.put, List.setIfInBounds_toArray, List.set_cons_zero, List.set_cons_succ, i64_w, i32_w]
                                                                              rfl
                                                                            refine take_ (i := 13) (N := some 83) (v := ?_) (a' := ?_) #[true, true, true, true, true, true, true, true, true, true, true, true, true, true, true, true, true, false, true, true, true, true, false, false, false, false, false] rfl rfl (take_ofW HT_.out HW_.out (by kernel_rfl)) (fun _ _ _ h => h) (Or.inl ⟨by rfl, ?_⟩) hHeld ?_ ?_
                                                                            rotate_left
                                                                            · rintro w' ⟨s0, s1, s2, s3, s4⟩
                                                                              go_simp
                                                                              with_reducible rfl
                                                                            rotate_left
                                                                            · simp only [Act.put, List.setIfInBounds_toArray, List.set_cons_zero, List.set_cons_succ, i64_w, i32_w]
                                                                              rfl
                                                                            refine take_ (i := 17) (N := some 87) (v := ?_) (a' := ?_) #[true, true, true, true, true, true, true, true, true, true, true, true, true, true, true, true, true, true, true, true, true, true, false, false, false, false, false] rfl rfl (take_ofW HT_.out HW_.out (by kernel_rfl)) (fun _ _ _ h => h) (Or.inl ⟨by rfl, ?_⟩) hHeld ?_ ?_
                                                                            rotate_left
                                                                            · rintro w' ⟨s0, s1, s2, s3, s4⟩
                                                                              go_simp
                                                                              with_reducible rfl
                                                                            rotate_left
                                                                            · simp only [Act.put, List.setIfInBounds_toArray, List.set_cons_zero, List.set_cons_succ, i64_w, i32_w]
                                                                              rfl
                                                                            refine pure_ (i := 22) (N := some 92) (v := ?_) (a' := ?_) #[true, true, true, true, true, true, true, true, true, true, true, true, true, true, true, true, true, true, true, true, true, true, true, false, false, false, false] rfl rfl (any_of HT_.out (by kernel_rfl)) (fun _ _ _ h => h) (Or.inl ⟨by rfl, ?_⟩) ?_ ?_
                                                                            rotate_left
                                                                            · intro w'
                                                                              go_simp
                                                                              with_reducible rfl
                                                                            rotate_left
                                                                            · simp only [Act.put, List.setIfInBounds_toArray, List.set_cons_zero, List.set_cons_succ, i64_w, i32_w]
                                                                              rfl
                                                                            refine take_ (i := 23) (N := some 93) (v := ?_) (a' := ?_) #[true, true, true, true, true, true, true, true, true, true, true, true, true, true, true, true, true, true, true, true, true, true, true, true, false, false, false] rfl rfl (take_ofW HT_.out HW_.out (by kernel_rfl)) (fun _ _ _ h => h) (Or.inl ⟨by rfl, ?_⟩) hHeld ?_ ?_
                                                                            rotate_left
                                                                            · rintro w' ⟨s0, s1, s2, s3, s4⟩
                                                                              go_simp
                                                                              with_reducible rfl
                                                                            rotate_left
                                                                            · simp only [Act.put, List.setIfInBounds_toArray, List.set_cons_zero, List.set_cons_succ, i64_w, i32_w]
                                                                              rfl
                                                                            refine one_ (i := 24) (N := some 94) #[true, true, true, true, true, true, true, true, true, true, true, true, true, true, true, true, true, true, true, true, true, true, true, true, true, false, false] rfl rfl (one_of HT_.out (by kernel_rfl)) (by decide) (fun K hK => ?_)
                                                                            refine goes_ Try.func83 (by kernel_rfl) rfl #[.int .i64 (rd x12_7 x13_6), .int .i64 (rd (rd_L1 x9_5 (ji43)) x14_7), .int .i64 (rd (rd_L1 x9_5 x11_5) (ji50))] (by rfl) rfl rfl (by (try simp only [List.map_toArray, List.map_cons, List.map_nil]); first | done | (simp only [hji43, hji50]; rfl) | rfl | (simp only [List.length_drop, List.length_take]; rfl)) ?_
                                                                            with_reducible refine (spec_trSum.calls (rd x12_7 x13_6) (rd (rd_L1 x9_5 (ji43)) x14_7) (rd (rd_L1 x9_5 x11_5) (ji50)) t133 _ A53.out).mono ?_
                                                                            rintro e w' ⟨rfl, ⟨nd, rfl⟩⟩
                                                                            refine ⟨_, rfl, ?_⟩
                                                                            have p54 : 0 ≤ (x13_6 : Int) := of_decide_eq_true (by first | (with_reducible assumption) | assumption)
                                                                            have q54 : (x13_6 : Int) < ((x12_7.length : Int) : Int) := of_decide_eq_true (by first | (with_reducible assumption) | assumption)
                                                                            obtain ⟨hx54_0, hf54_0⟩ := Kd.R_celln 0 HO_12.out (x13_6 : Int) p54 q54
                                                                            replace p54 := eq_true p54
                                                                            replace q54 := eq_true q54
                                                                            have HP56 := Kd.R_putn HO_12.out (x13_6 : Int) t133
                                                                            rw [← Ny134.out] at HP56
                                                                            have HQ56 := Aside0.mk HP56
                                                                            clear HP56
                                                                            refine hK.out _ _ ⟨hHeld.1, hHeld.2.1, hHeld.2.2.1, hHeld.2.2.2.1, hHeld.2.2.2.2⟩ (fun hHeld => ?_)
                                                                            clear hK K
                                                                            refine norm_ (a' := ?_) ?_ ?_
                                                                            rotate_left
                                                                            · show Act.put _ (some 94) _ = _
                                                                              simp only [Act.put, List.setIfInBounds_toArray, List.set_cons_zero, List.set_cons_succ, i64_w, i32_w]
                                                                              rfl
                                                                            refine pure_ (i := 25) (N := some 95) (v := ?_) (a' := ?_) #[true, true, true, true, true, true, true, true, true, true, true, true, true, true, true, true, true, true, true, true, true, true, true, true, true, true, false] rfl rfl (any_of HT_.out (by kernel_rfl)) (fun _ _ _ h => h) (Or.inl ⟨by rfl, ?_⟩) ?_ ?_
                                                                            rotate_left
                                                                            · intro w'
                                                                              go_simp
                                                                              with_reducible rfl
                                                                            rotate_left
                                                                            · simp only [Act.put, List.setIfInBounds_toArray, List.set_cons_zero, List.set_cons_succ, i64_w, i32_w]
                                                                              rfl
                                                                            refine last_ (i := 26) (N := none) #[true, true, true, true, true, true, true, true, true, true, true, true, true, true, true, true, true, true, true, true, true, true, true, true, true, true, true] rfl rfl (one_of HT_.out (by kernel_rfl)) (by decide) (fun K hK => ?_)
                                                                            refine skip_ (w1 := ?_) (by rfl) rfl ?_ ?_
                                                                            rotate_left
                                                                            · go_simp
                                                                              rfl
                                                                            refine hK.out _ _ ?_
                                                                            clear hK K
                                                                            refine done_ (done_of HT_.out (by kernel_rfl)) ?_
                                                                            try go_wp2
                                                                            (try simp only [← hl12_7])
                                                                            go_roundg k7
                                                                            case measure => have := HK1.out; have := HJ8.out; have := HK3.out; have := HK4.out; have := HK5.out; have := HK6.out; have := HK7.out; omega
                                                                            case rel => exact ⟨(y134), (wrap64 (x14_7 + 1)), (by first | rfl | (simp; done) | (simp [*]; done)), H', ⟨by have := HK1.out; have := HJ8.out; have := HK3.out; have := HK4.out; have := HK5.out; have := HK6.out; have := HK7.out; omega⟩, ⟨by (try simp only [hl7_8]); (try simp only [hl9_3]); (try simp only [hl9_4]); (try simp only [hl9_5]); (try simp only [hl12_6]); (try simp only [hl12_7]); (with_reducible repeat (first | apply Kd.S_alloc | apply Kd.S_drewN | apply Kd.S_drew)); exact Kd.S_mono (Kd.S_far (p := ⟨go34, (x13_6 : Int).toNat, none⟩) (Kd.S_mono HO_9.out (fun k_ hk => (⟨hk, fun e_ => hk (by rw [e_]; rfl)⟩ : _ ∧ k_ ≠ go34))) (fun _ hk => hk.2) (.int .i64 t133)) (fun _ hk => hk.1)⟩, ⟨by (try simp only [hl7_8]); (try simp only [hl9_3]); (try simp only [hl9_4]); (try simp only [hl9_5]); (try simp only [hl12_6]); (try simp only [hl12_7]); (with_reducible repeat (first | apply Kd.R_alloc | apply Kd.R_drewN | apply Kd.R_drew)); exact HQ56.out⟩, ⟨by repeat (first | (with_reducible first | exact HB.out | apply below_alloc | apply pw_below_drewN | apply below_drew1 | refine below_set ?_ GB34.out) | exact HB.out)⟩⟩
                                                                          · rw [if_neg c52] at H
                                                                            exact absurd H (by simp)
                                                                        · rw [if_neg c51] at H
                                                                          exact absurd H (by simp)
                                                                      · rw [if_neg c49] at H
                                                                        exact absurd H (by simp)
                                                                    · rw [if_neg c48] at H
                                                                      exact absurd H (by simp)
                                                                  · rw [if_neg c47] at H
                                                                    exact absurd H (by simp)
                                                                · rw [if_neg c46] at H
                                                                  exact absurd H (by simp)
                                                              · rw [if_neg c45] at H
                                                                exact absurd H (by simp)
                                                            · rw [if_neg c44] at H
                                                              exact absurd H (by simp)
                                                          · rw [if_neg c42] at H
                                                            exact absurd H (by simp)
                                                        · rw [if_neg c41] at H
                                                          exact absurd H (by simp)
                                                      · rw [if_neg c40] at H
                                                        have c40b0 : decide (x14_7 < x13_6) = false := decide_eq_false c40
                                                        clear c40
                                                        have H' := Aside0.mk H
                                                        clear H
                                                        go_wp2
                                                        (try simp only [← hl12_6, ← hl12_7])
                                                        go_roundg k7
                                                        case measure => have := HK1.out; have := HJ8.out; have := HK3.out; have := HK4.out; have := HK5.out; have := HK6.out; have := HK7.out; omega
                                                        case rel => exact ⟨(x12_7), (wrap64 (x13_6 + 1)), (by first | rfl | (simp; done) | (simp [*]; done)), H', ⟨by have := HK1.out; have := HJ8.out; have := HK3.out; have := HK4.out; have := HK5.out; have := HK6.out; have := HK7.out; omega⟩, ⟨by (try simp only [hl7_8]); (try simp only [hl9_3]); (try simp only [hl9_4]); (try simp only [hl9_5]); (try simp only [hl12_6]); (try simp only [hl12_7]); (with_reducible repeat (first | apply Kd.S_alloc | apply Kd.S_drewN | apply Kd.S_drew)); exact HO_9.out⟩, ⟨by (try simp only [hl7_8]); (try simp only [hl9_3]); (try simp only [hl9_4]); (try simp only [hl9_5]); (try simp only [hl12_6]); (try simp only [hl12_7]); (with_reducible repeat (first | apply Kd.R_alloc | apply Kd.R_drewN | apply Kd.R_drew)); exact HO_12.out⟩, ⟨by repeat (first | (with_reducible first | exact HB.out | apply below_alloc | apply pw_below_drewN | apply below_drew1) | exact HB.out)⟩⟩
                                                · rw [if_neg c39] at H
                                                  have c39b0 : decide (x13_6 ≤ a1) = false := decide_eq_false c39
                                                  clear c39
                                                  by_cases c57 : 0 ≤ x11_5
                                                  · rw [if_pos c57] at H
                                                    have c57b0 : decide (0 ≤ x11_5) = true := decide_eq_true c57
                                                    clear c57
                                                    by_cases c58 : x11_5 < (x9_5.length : Int)
                                                    · rw [if_pos c58] at H
                                                      have c58b0 : decide (x11_5 < (x9_5.length : Int)) = true := decide_eq_true c58
                                                      clear c58
                                                      obtain ⟨y127, hy127⟩ : ∃ y_ : List (List Int), y_ = (x9_5.set (x11_5 : Int).toNat x12_6) := ⟨_, rfl⟩
                                                      replace H : (spec_trCount.l3 k6 a0 a1 x2_4 y127 (wrap64 (x11_5 - 1))) = some r := by first | (rw [hy127]; with_reducible exact H) | (have H2_ := (Option.bind_some _ _).symm.trans H; rw [hy127]; with_reducible exact H2_) | (have H2_ := (Option.bind_some _ _).symm.trans H; with_reducible exact H2_) | with_reducible exact H | (rw [hy127]; exact H) | exact H
                                                      have Ny127 := Aside0.mk hy127
                                                      clear hy127
                                                      have H' := Aside0.mk H
                                                      clear H
                                                      have p59 : 0 ≤ (x11_5 : Int) := of_decide_eq_true (by first | (with_reducible assumption) | assumption)
                                                      have q59 : (x11_5 : Int) < ((x9_5.length : Int) : Int) := of_decide_eq_true (by first | (with_reducible assumption) | assumption)
                                                      obtain ⟨go59, co59, eo59, gb59, gl59, cl59, HG59⟩ := Kd.S_form HO_9.out (by omega)
                                                      (first | cases eo59 | (injection eo59 with ea_ en_ ec_; (first | subst ea_ | (injection ea_ with ea_; subst ea_)); subst ec_; clear en_))
                                                      have GB59 := Aside0.mk gb59
                                                      have GG59 := Aside0.mk HG59
                                                      clear gb59 gl59 HG59
                                                      obtain ⟨_, ce59, hcl59, hM59, hcc59, hfr59, _, _⟩ := Kd.S_elem HO_9.out [] (x11_5 : Int) p59 q59
                                                      obtain ⟨ve59_0, rfl, ge59_0⟩ := hM59
                                                      have hx59_0 := hcc59 0 _ rfl
                                                      have hf59_0 := hfr59 0
                                                      (try simp only [show ((Kd.slice 3 (Kd.int .i64))).sz = 1 from rfl, Nat.mul_one, Nat.add_zero] at hx59_0)
                                                      (try simp only [show ((Kd.slice 3 (Kd.int .i64))).sz = 1 from rfl, Nat.mul_one, Nat.add_zero] at hf59_0)
                                                      (try clear hcl59); (try clear hcc59); (try clear hfr59); (try clear hM59)
                                                      replace p59 := eq_true p59
                                                      replace q59 := eq_true q59
                                                      have HX60 := Aside0.mk (show Kd.S (Kd.slice 3 (Kd.int .i64)) 27 wr w.heap.size (fun k_ => ((fun _ => True)) k_ ∧ ¬ ((fun k_ => some k_ = (.slice (some ⟨go34, 0, none⟩) x12_6.length co34 : Value).ownBlock)) k_) (.slice (some ⟨go59, 0, none⟩) x9_5.length co19) x9_5 from (by (with_reducible repeat (first | apply Kd.S_alloc | apply Kd.S_drewN | apply Kd.S_drew)); exact Kd.S_mono HO_9.out (fun k_ hk => ⟨trivial, fun e_ => hk e_⟩)))
                                                      obtain ⟨oki60, ce60, hcl60, hM60, hcc60, hfr60, hoki60, hH60⟩ := Kd.S_elem HX60.out [] (x11_5 : Int) (of_decide_eq_true (by first | (with_reducible assumption) | assumption)) (by have h_ : (x11_5 : Int) < ((x9_5.length : Int) : Int) := of_decide_eq_true (by first | (with_reducible assumption) | assumption); first | exact h_ | (have e_ := (Kd.S_reads' HO_9.out).1; omega) | simpa using h_)
                                                      obtain ⟨ve60_0, rfl, ge60_0⟩ := hM60
                                                      have HP60 := Kd.S_seg hH60 (of_decide_eq_true (by first | (with_reducible assumption) | assumption)) (by have h_ : (x11_5 : Int) < ((x9_5.length : Int) : Int) := of_decide_eq_true (by first | (with_reducible assumption) | assumption); first | exact h_ | (have e_ := (Kd.S_reads' HO_9.out).1; omega) | simpa using h_) (seg := [.slice (some ⟨go34, 0, none⟩) x12_6.length co34]) (j := 0) (show 1 ≤ 1 from by decide) (x' := x12_6) (Kd.M_row (Kd.R_mono (Kd.R_tight rfl (Kd.R_mono (ok' := fun k_ => ((fun _ => True)) k_ ∧ k_ ≠ go59) (Kd.R_apart' (HO_12.out) (Kd.S_typed HO_9.out) (by decide)) (fun k_ hk => ⟨trivial, fun e_ => (hk.2) (by rw [e_]; rfl)⟩))) (fun _ h_ => Or.inr (h_)))) (fun _ hk => hk) (fun k_ hk_ => ((Kd.R_mono (ok' := fun k_ => ((fun _ => True)) k_ ∧ k_ ≠ go59) (Kd.R_apart' (HO_12.out) (Kd.S_typed HO_9.out) (by decide)) (fun k_ hk => ⟨trivial, fun e_ => (hk.2) (by rw [e_]; rfl)⟩))).1 k_ hk_.symm)
                                                      have hx60_0 := hcc60 0 _ rfl
                                                      (try simp only [show ((Kd.slice 3 (Kd.int .i64))).sz = 1 from rfl, Nat.mul_one, Nat.add_zero] at hx60_0)
                                                      have hf60_0 := hfr60 0
                                                      (try simp only [show ((Kd.slice 3 (Kd.int .i64))).sz = 1 from rfl, Nat.mul_one, Nat.add_zero] at hf60_0)
                                                      (try clear hcl60); (try clear hcc60); (try clear hfr60); (try clear hM60); (try clear hoki60); (try clear hH60)
                                                      (try simp only [show ((Kd.slice 3 (Kd.int .i64))).sz = 1 from rfl, Nat.mul_one, Nat.add_zero] at HP60)
                                                      go_wp2_with (first | ((with_reducible refine gate_store (t := 27) (p := 99) rfl ?_); refine store_event (t := 27) (p := 99) (v := ?vo_w61) (w1 := (wr.setCell ⟨go59, (x11_5 : Int).toNat, none⟩ (.slice (some ⟨go34, 0, none⟩) x12_6.length co34))) ?hg ?ho ?hn ?hr ?_; (case ho => rfl); (case hg => rfl); (case hn => rfl); (case hr => first | (go_simp; done) | (go_simp; rfl)); intro w61 hw; have hg : wr.grownBy w61 (some go59) := (by rw [hw]; exact HP60.2); have hp_ : Kd.S (Kd.slice 3 (Kd.int .i64)) 27 w61 w.heap.size (fun _ => True) (.slice (some ⟨go59, 0, none⟩) x9_5.length co19) y127 := (by rw [hw, Ny127.out]; exact HP60.1); clear HP60; have n0_ := Aside0.mk (hp_); have n1_ := Aside0.mk ((by rw [hw]; exact below_set (HB.out) GB59.out : Below w.heap.size w w61)); clear HO_9; clear HB; clear HO_12; have HO_9 := n0_; have HB := n1_; clear n0_ n1_; clear hg hw hp_))
                                                      (try simp only [← hl9_5, ← hl12_6])
                                                      go_roundg k6
                                                      case measure => have := HK1.out; have := HJ8.out; have := HK3.out; have := HK4.out; have := HK5.out; have := HK6.out; omega
                                                      case rel => exact ⟨(y127), (wrap64 (x11_5 - 1)), (by first | rfl | (simp; done) | (simp [*]; done)), H', ⟨by have := HK1.out; have := HJ8.out; have := HK3.out; have := HK4.out; have := HK5.out; have := HK6.out; omega⟩, ⟨by (try simp only [hl7_8]); (try simp only [hl9_3]); (try simp only [hl9_4]); (try simp only [hl9_5]); (try simp only [hl12_6]); (with_reducible repeat (first | apply Kd.S_alloc | apply Kd.S_drewN | apply Kd.S_drew)); exact HO_9.out⟩, ⟨by repeat (first | (with_reducible first | exact HB.out | apply below_alloc | apply pw_below_drewN | apply below_drew1) | exact HB.out)⟩⟩
                                                    · rw [if_neg c58] at H
                                                      exact absurd H (by simp)
                                                  · rw [if_neg c57] at H
                                                    exact absurd H (by simp)
                                          · rw [if_neg c33] at H
                                            exact absurd H (by simp)
                                        · rw [if_neg c32] at H
                                          exact absurd H (by simp)
                                      · rw [if_neg c31] at H
                                        exact absurd H (by simp)
                                    · rw [if_neg c29] at H
                                      have c29b0 : decide (0 < x11_5) = false := decide_eq_false c29
                                      clear c29
                                      have H' := Aside0.mk H
                                      clear H
                                      go_wp2
                                      (try simp only [← hl9_4, ← hl9_5])
                                      go_roundg k5
                                      case measure => have := HK1.out; have := HJ8.out; have := HK3.out; have := HK4.out; have := HK5.out; omega
                                      case rel => exact ⟨(wrap64 (x2_4 - 1)), (x9_5), (by first | rfl | (simp; done) | (simp [*]; done)), H', ⟨by have := HK1.out; have := HJ8.out; have := HK3.out; have := HK4.out; have := HK5.out; omega⟩, ⟨by (try simp only [hl7_8]); (try simp only [hl9_3]); (try simp only [hl9_4]); (try simp only [hl9_5]); (with_reducible repeat (first | apply Kd.S_alloc | apply Kd.S_drewN | apply Kd.S_drew)); exact HO_9.out⟩, ⟨by repeat (first | (with_reducible first | exact HB.out | apply below_alloc | apply pw_below_drewN | apply below_drew1) | exact HB.out)⟩⟩
                              · rw [if_neg c28] at H
                                have c28b0 : decide (0 < x2_4) = false := decide_eq_false c28
                                clear c28
                                by_cases c62 : 0 ≤ a0
                                · rw [if_pos c62] at H
                                  have c62b0 : decide (0 ≤ a0) = true := decide_eq_true c62
                                  clear c62
                                  by_cases c63 : a0 < (x9_4.length : Int)
                                  · rw [if_pos c63] at H
                                    have c63b0 : decide (a0 < (x9_4.length : Int)) = true := decide_eq_true c63
                                    clear c63
                                    obtain rfl := Option.some.inj H
                                    have p122 : 0 ≤ (a0 : Int) := of_decide_eq_true (by first | (with_reducible assumption) | assumption)
                                    have q122 : a0 < (x9_4.length : Int) := of_decide_eq_true (by first | (with_reducible assumption) | assumption)
                                    obtain ⟨ad122, A122_0, c122_0, e122, hx122_0, hl122_0, hi122_0⟩ := at_L1 (Kd.S_reads' HO_9.out).2.2 a0 p122 q122
                                    cases e122
                                    obtain ⟨ce122, hce122, hMe122, hcc122⟩ := Kd.S_get HO_9.out [] a0 p122 (by first | exact q122 | exact of_decide_eq_true (by first | (with_reducible assumption) | assumption) | (have e_ := (Kd.S_reads' HO_9.out).1; omega))
                                    obtain ⟨ve122_0, rfl, ge122_0⟩ := hMe122
                                    have hv122_0 := hcc122 0 _ rfl
                                    rw [Nat.add_zero, show ((Kd.slice 3 (Kd.int .i64))).sz = 1 from rfl, Nat.mul_one] at hv122_0
                                    replace hv122_0 := Option.some.inj (hv122_0.symm.trans hx122_0)
                                    rw [hv122_0] at ge122_0
                                    have HL122_0 := Aside0.mk (show Kd.R (Kd.int .i64) 3 _ _ _ _ (rd_L1 x9_4 a0) from ge122_0)
                                    clear hv122_0 ge122_0
                                    clear hcc122 hce122
                                    have HR122_0 := Aside0.mk hi122_0
                                    have HC122_0 := Aside0.mk hl122_0
                                    clear hi122_0 hl122_0
                                    replace p122 := eq_true p122
                                    replace q122 := eq_true q122
                                    go_wp2
                                    go_ret
                                    exact ⟨_, by first | rfl | (simp [errW_none, errW_some] <;> rfl) | (simp only [← hji14]; first | rfl | (simp [errW_none, errW_some] <;> rfl)) | (simp [*, errW_none, errW_some] <;> rfl), by (with_reducible repeat (first | apply Kd.R_alloc | apply Kd.R_drewN | apply Kd.R_drew)); exact Kd.R_mono HL122_0.out (fun _ hk => trivial), by repeat (first | (with_reducible first | exact HB.out | apply below_alloc | apply pw_below_drewN | apply below_drew1) | exact HB.out)⟩
                                  · rw [if_neg c63] at H
                                    exact absurd H (by simp)
                                · rw [if_neg c62] at H
                                  exact absurd H (by simp)
                  · rw [if_neg c16] at H
                    exact absurd H (by simp)
                · rw [if_neg c15] at H
                  exact absurd H (by simp)
        · rw [if_neg c7] at H
          exact absurd H (by simp)

end Go.Proofs.Ytnbimnnocnhggaa.QFnExactCountBestTrees
