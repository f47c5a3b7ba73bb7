/- A text written by a program of this session for the law FnExactOpenAfterRounds: what each Go function that it reaches computes, and the proof that it does; no conditions beyond those stated. -/
import Derived.Test.YtnolocmcjcjjcaaQFnExactOpenAfterRoundsx0
import Derived.Test.YtnolocmcjcjjcaaQFnExactOpenAfterRoundsx1
namespace Go.Proofs.Ytnolocmcjcjjcaa.QFnExactOpenAfterRounds
open Go.RowKit Go.Proofs.YtnolocmcjcjjcaaW.PrintWords Go.Proofs.YtnolocmcjcjjcaaW.PrintLast Go.Proofs.YtnolocmcjcjjcaaW.PrintMore
attribute [local go_sem] max2_int min2_int max_two min_two max_three min_three max_four min_four   -- for this text's walks alone
set_option linter.unusedVariables false
set_option linter.unusedSimpArgs false

/-! ### spec_OpenAfterRounds: function 32 -/
mutual
def spec_OpenAfterRounds.j0 : Nat → Int → List (List Int) → Int → Bool → Option (Int × Int × Bool)
  | 0, _, _, _, _ => none
  | k + 1, x1, x2, x3, x27 => if x27 = true then (some (0, 0, false)) else (spec_OpenAfterRounds.l0 k x3 0 x1 x2 (x2.length : Int) 0)
def spec_OpenAfterRounds.l0 : Nat → Int → Int → Int → List (List Int) → Int → Int → Option (Int × Int × Bool)
  | 0, _, _, _, _, _, _ => none
  | k + 1, x3, x11, x12, x29, x30, x31 => if x31 < x30 then (if 0 ≤ x31 then (if x31 < (x29.length : Int) then (spec_OpenAfterRounds.l1 k x3 x11 x12 x29 x30 x31 (rd_L1 x29 x31) ((rd_L1 x29 x31).length : Int) 0) else (none)) else (none)) else (some (x11, x12, true))
def spec_OpenAfterRounds.l1 : Nat → Int → Int → Int → List (List Int) → Int → Int → List Int → Int → Int → Option (Int × Int × Bool)
  | 0, _, _, _, _, _, _, _, _, _ => none
  | k + 1, x3, x11, x12, x29, x30, x31, x35, x36, x37 => if x37 < x36 then (if 0 ≤ x37 then (if x37 < (x35.length : Int) then (if (rd x35 x37) > x3 then ((spec_l1Least.f x12 (wrap64 ((rd x35 x37) - 1))).bind fun t162 => (spec_OpenAfterRounds.l1 k x3 x11 t162 x29 x30 x31 x35 x36 (wrap64 (x37 + 1)))) else ((spec_l1Most.f x11 (rd x35 x37)).bind fun t163 => (spec_OpenAfterRounds.l1 k x3 t163 x12 x29 x30 x31 x35 x36 (wrap64 (x37 + 1))))) else (none)) else (none)) else (spec_OpenAfterRounds.l0 k x3 x11 x12 x29 x30 (wrap64 (x31 + 1)))
end
def spec_OpenAfterRounds.f (k : Nat) (a0 : Int) (a1 : Int) (l2 : List (List Int)) (a3 : Int) : Option (Int × Int × Bool) := (spec_roTold.f k a0 a1 l2).bind fun t158 => (if t158 = true then ((spec_l1In.f a3 0 a1).bind fun t159 => (spec_OpenAfterRounds.j0 k a1 l2 a3 (!t159))) else (spec_OpenAfterRounds.j0 k a1 l2 a3 true))
theorem spec_OpenAfterRounds.mono_l : ∀ k, (∀ y0 y1 y2 y3, LeO (spec_OpenAfterRounds.j0 k y0 y1 y2 y3) (spec_OpenAfterRounds.j0 (k + 1) y0 y1 y2 y3)) ∧ (∀ y0 y1 y2 y3 y4 y5, LeO (spec_OpenAfterRounds.l0 k y0 y1 y2 y3 y4 y5) (spec_OpenAfterRounds.l0 (k + 1) y0 y1 y2 y3 y4 y5)) ∧ (∀ y0 y1 y2 y3 y4 y5 y6 y7 y8, LeO (spec_OpenAfterRounds.l1 k y0 y1 y2 y3 y4 y5 y6 y7 y8) (spec_OpenAfterRounds.l1 (k + 1) y0 y1 y2 y3 y4 y5 y6 y7 y8))
  | 0 => ⟨fun _ _ _ _ r h => by simp [spec_OpenAfterRounds.j0] at h, fun _ _ _ _ _ _ r h => by simp [spec_OpenAfterRounds.l0] at h, fun _ _ _ _ _ _ _ _ _ r h => by simp [spec_OpenAfterRounds.l1] at h⟩
  | k + 1 => by
    obtain ⟨ih0, ih1, ih2⟩ := spec_OpenAfterRounds.mono_l k
    refine ⟨?_, ?_, ?_⟩
    · intro y0 y1 y2 y3
      unfold spec_OpenAfterRounds.j0
      repeat' first
      | (with_reducible exact ih0 _ _ _ _)
      | (with_reducible exact ih1 _ _ _ _ _ _)
      | (with_reducible exact ih2 _ _ _ _ _ _ _ _ _)
      | (with_reducible exact spec_roTold.mono _ _ _ _)
      | (with_reducible exact LeO.refl _)
      | (with_reducible exact LeO.none _)
      | (with_reducible refine LeO.ite ?_ ?_)
      | (with_reducible refine LeO.bind ?_ (fun _ => ?_))
      | exact ih0 _ _ _ _
      | exact ih1 _ _ _ _ _ _
      | exact ih2 _ _ _ _ _ _ _ _ _
      | exact spec_roTold.mono _ _ _ _
      | exact LeO.none _
      | refine LeO.ite ?_ ?_
      | refine LeO.bind ?_ (fun _ => ?_)
    · intro y0 y1 y2 y3 y4 y5
      unfold spec_OpenAfterRounds.l0
      repeat' first
      | (with_reducible exact ih0 _ _ _ _)
      | (with_reducible exact ih1 _ _ _ _ _ _)
      | (with_reducible exact ih2 _ _ _ _ _ _ _ _ _)
      | (with_reducible exact spec_roTold.mono _ _ _ _)
      | (with_reducible exact LeO.refl _)
      | (with_reducible exact LeO.none _)
      | (with_reducible refine LeO.ite ?_ ?_)
      | (with_reducible refine LeO.bind ?_ (fun _ => ?_))
      | exact ih0 _ _ _ _
      | exact ih1 _ _ _ _ _ _
      | exact ih2 _ _ _ _ _ _ _ _ _
      | exact spec_roTold.mono _ _ _ _
      | exact LeO.none _
      | refine LeO.ite ?_ ?_
      | refine LeO.bind ?_ (fun _ => ?_)
    · intro y0 y1 y2 y3 y4 y5 y6 y7 y8
      unfold spec_OpenAfterRounds.l1
      repeat' first
      | (with_reducible exact ih0 _ _ _ _)
      | (with_reducible exact ih1 _ _ _ _ _ _)
      | (with_reducible exact ih2 _ _ _ _ _ _ _ _ _)
      | (with_reducible exact spec_roTold.mono _ _ _ _)
      | (with_reducible exact LeO.refl _)
      | (with_reducible exact LeO.none _)
      | (with_reducible refine LeO.ite ?_ ?_)
      | (with_reducible refine LeO.bind ?_ (fun _ => ?_))
      | exact ih0 _ _ _ _
      | exact ih1 _ _ _ _ _ _
      | exact ih2 _ _ _ _ _ _ _ _ _
      | exact spec_roTold.mono _ _ _ _
      | exact LeO.none _
      | refine LeO.ite ?_ ?_
      | refine LeO.bind ?_ (fun _ => ?_)
theorem spec_OpenAfterRounds.mono : ∀ a0 a1 a2 a3 k, LeO (spec_OpenAfterRounds.f k a0 a1 a2 a3) (spec_OpenAfterRounds.f (k + 1) a0 a1 a2 a3) := by
  intro a0 a1 a2 a3 k
  obtain ⟨ih0, ih1, ih2⟩ := spec_OpenAfterRounds.mono_l k
  unfold spec_OpenAfterRounds.f
  repeat' first
      | (with_reducible exact ih0 _ _ _ _)
      | (with_reducible exact ih1 _ _ _ _ _ _)
      | (with_reducible exact ih2 _ _ _ _ _ _ _ _ _)
      | (with_reducible exact spec_roTold.mono _ _ _ _)
      | (with_reducible exact LeO.refl _)
      | (with_reducible exact LeO.none _)
      | (with_reducible refine LeO.ite ?_ ?_)
      | (with_reducible refine LeO.bind ?_ (fun _ => ?_))
      | exact ih0 _ _ _ _
      | exact ih1 _ _ _ _ _ _
      | exact ih2 _ _ _ _ _ _ _ _ _
      | exact spec_roTold.mono _ _ _ _
      | exact LeO.none _
      | refine LeO.ite ?_ ?_
      | refine LeO.bind ?_ (fun _ => ?_)
set_option maxHeartbeats 8000000 in
set_option maxRecDepth 100000 in
theorem spec_OpenAfterRounds.calls (k : Nat) (a0 : Int) (a1 : Int) (A2 : Option Addr) (c2 : Nat) (l2 : List (List Int)) (a3 : Int) (r1 : Int) (r2 : Int) (r3 : Bool) (w : World) (hr2 : Kd.C (Kd.slice 3 (Kd.int .i64)) w A2 l2.length l2) (hc2 : l2.length ≤ c2) (h : spec_OpenAfterRounds.f k a0 a1 l2 a3 = some (r1, r2, r3)) :
    Calls Try.prog 32 #[.int .i64 a0, .int .i64 a1, .slice A2 l2.length c2, .int .i64 a3] w fun e w' => e = .returned (.tuple #[.int .i64 r1, .int .i64 r2, .bool r3]) ∧ Drawn0 w w' := by
  have HR2 := Aside0.mk hr2
  have HC2 := Aside0.mk hc2
  clear hr2 hc2
  have H : ((spec_roTold.f k a0 a1 l2).bind fun t158 => (if t158 = true then ((spec_l1In.f a3 0 a1).bind fun t159 => (spec_OpenAfterRounds.j0 k a1 l2 a3 (!t159))) else (spec_OpenAfterRounds.j0 k a1 l2 a3 true))) = some (r1, r2, r3) := h
  clear h
  have HC5 := Aside0.mk H
  clear H
  go_enter Try.func32, Try.ntmps32
  go_upto_region 1 with (fail)
  go_cut [27] (fun v27 wc => ∃ (kq : Nat) (x27_4 : Bool), v27 = .bool x27_4 ∧ Aside0 (spec_OpenAfterRounds.j0 kq a1 l2 a3 x27_4 = some (r1, r2, r3)) ∧ Aside0 (kq ≤ k) ∧ Drawn0 w wc)
  case first =>
    have H := HC5.out
    clear HC5
    replace H := Option.bind_eq_some_iff.mp H
    obtain ⟨t158, A60, H⟩ := H
    replace H : (if t158 = true then ((spec_l1In.f a3 0 a1).bind fun t159 => (spec_OpenAfterRounds.j0 k a1 l2 a3 (!t159))) else (spec_OpenAfterRounds.j0 k a1 l2 a3 true)) = some (r1, r2, r3) := H
    have A6 := Aside0.mk A60
    clear A60
    by_cases c7 : t158 = true
    · subst c7
      have H1 : ((spec_l1In.f a3 0 a1).bind fun t159 => (spec_OpenAfterRounds.j0 k a1 l2 a3 (!t159))) = some (r1, r2, r3) := by rw [if_pos rfl] at H; exact H
      clear H
      have H := H1
      clear H1
      replace H := Option.bind_eq_some_iff.mp H
      obtain ⟨t159, A80, H⟩ := H
      replace H : (spec_OpenAfterRounds.j0 k a1 l2 a3 (!t159)) = some (r1, r2, r3) := H
      have A8 := Aside0.mk A80
      clear A80
      have H' := Aside0.mk H
      clear H
      go_wp2_with (first | ((with_reducible refine gate_callee (f := 51) rfl ?_); refine goesL_ (some 20) rfl rfl Try.func51 (by kernel_rfl) rfl #[.int .i64 a0, .int .i64 a1, .slice A2 l2.length c2] rfl (by (try simp only [List.map_toArray, List.map_cons, List.map_nil]); first | done | rfl | (simp only [List.length_drop, List.length_take]; rfl)) ?_; (with_reducible refine (spec_roTold.calls k a0 a1 _ _ l2 true _ ?side1 ?side2 A6.out).mono ?_); (case side1 => repeat (first | exact HR2.out | (with_reducible refine Kd.C_alloc ?_ _) | (with_reducible refine Kd.C_drewN ?_ _) | (with_reducible refine Kd.C_drew ?_))); (case side2 => exact HC2.out); rintro e w' ⟨rfl, ⟨nd, rfl⟩⟩; refine ⟨_, rfl, ?_⟩) | (go_at_call 37; (with_reducible refine (spec_l1In.calls a3 0 a1 t159 _ A8.out).mono ?_); rintro e w' ⟨rfl, ⟨nd, rfl⟩⟩))
      go_meet
      case rel => exact ⟨_, (!t159), (by first | rfl | (simp; done) | (simp [*]; done)), H', ⟨by first | omega | exact Nat.le_refl _⟩, by repeat (first | exact Drawn0.refl _ | apply Drawn0.step)⟩
    · replace c7 := Bool.eq_false_iff.mpr c7
      subst c7
      have H1 : (spec_OpenAfterRounds.j0 k a1 l2 a3 true) = some (r1, r2, r3) := by rw [if_neg (show ¬ (false = true) by decide)] at H; exact H
      clear H
      have H := H1
      clear H1
      have H' := Aside0.mk H
      clear H
      go_wp2_with (first | ((with_reducible refine gate_callee (f := 51) rfl ?_); refine goesL_ (some 20) rfl rfl Try.func51 (by kernel_rfl) rfl #[.int .i64 a0, .int .i64 a1, .slice A2 l2.length c2] rfl (by (try simp only [List.map_toArray, List.map_cons, List.map_nil]); first | done | rfl | (simp only [List.length_drop, List.length_take]; rfl)) ?_; (with_reducible refine (spec_roTold.calls k a0 a1 _ _ l2 false _ ?side1 ?side2 A6.out).mono ?_); (case side1 => repeat (first | exact HR2.out | (with_reducible refine Kd.C_alloc ?_ _) | (with_reducible refine Kd.C_drewN ?_ _) | (with_reducible refine Kd.C_drew ?_))); (case side2 => exact HC2.out); rintro e w' ⟨rfl, ⟨nd, rfl⟩⟩; refine ⟨_, rfl, ?_⟩))
      go_meet
      case rel => exact ⟨_, (true), (by first | rfl | (simp; done) | (simp [*]; done)), H', ⟨by first | omega | exact Nat.le_refl _⟩, by repeat (first | exact Drawn0.refl _ | apply Drawn0.step)⟩
  case rest =>
    clear HC5
    try clear c2
    try clear p2
    try clear c3
    try clear c5
    try clear c7
    obtain ⟨kq, x27_4, rfl, HA, HJ4, ⟨mc4, rfl⟩⟩ := hcut
    cases kq with
    | zero => exact absurd HA.out (by simp [spec_OpenAfterRounds.j0])
    | succ kj4 =>
      have H := HA.out
      clear HA
      simp only [spec_OpenAfterRounds.j0] at H
      by_cases c9 : x27_4 = true
      · subst c9
        have H1 : (some (0, 0, false)) = some (r1, r2, r3) := by rw [if_pos rfl] at H; exact H
        clear H
        have H := H1
        clear H1
        simp only [Option.some.injEq, Prod.mk.injEq] at H
        obtain ⟨rfl, rfl, rfl⟩ := H
        go_wp2
        go_ret3
        exact ⟨by first | rfl | (simp; done) | (simp [*]; done), by repeat (first | exact Drawn0.refl _ | apply Drawn0.step)⟩
      · replace c9 := Bool.eq_false_iff.mpr c9
        subst c9
        have H1 : (spec_OpenAfterRounds.l0 kj4 a3 0 a1 l2 (l2.length : Int) 0) = some (r1, r2, r3) := by rw [if_neg (show ¬ (false = true) by decide)] at H; exact H
        clear H
        have H := H1
        clear H1
        have H' := Aside0.mk H
        clear H
        go_wp2
        go_loopg [11, 12, 31] kj4 (fun kq v11 v12 v31 w' => ∃ (x11_2 : Int) (x12_2 : Int) (x31_2 : Int), v11 = .int .i64 x11_2 ∧ v12 = .int .i64 x12_2 ∧ v31 = .int .i64 x31_2 ∧ Aside0 (spec_OpenAfterRounds.l0 kq a3 x11_2 x12_2 l2 (l2.length : Int) x31_2 = some (r1, r2, r3)) ∧ Aside0 (kq ≤ kj4) ∧ Drawn0 w w')
        case atStart => exact ⟨(0), (a1), (0), (by first | rfl | (simp; done) | (simp [*]; done)), (by first | rfl | (simp; done) | (simp [*]; done)), (by first | rfl | (simp; done) | (simp [*]; done)), H', ⟨Nat.le_refl _⟩, by repeat (first | exact Drawn0.refl _ | apply Drawn0.step)⟩
        case round =>
          clear H'
          try clear c2
          try clear p2
          try clear c3
          try clear c4
          try clear c5
          try clear c7
          try clear c9
          try clear p2
          obtain ⟨x11_2, x12_2, x31_2, rfl, rfl, rfl, HA, HK2, ⟨m2, rfl⟩⟩ := hrel
          cases gk with
          | zero => exact absurd HA.out (by simp [spec_OpenAfterRounds.l0])
          | succ k2 =>
            have H := HA.out
            clear HA
            simp only [spec_OpenAfterRounds.l0] at H
            by_cases c10 : x31_2 < (l2.length : Int)
            · rw [if_pos c10] at H
              have c10b0 : decide (x31_2 < (l2.length : Int)) = true := decide_eq_true c10
              clear c10
              by_cases c11 : 0 ≤ x31_2
              · rw [if_pos c11] at H
                have c11b0 : decide (0 ≤ x31_2) = true := decide_eq_true c11
                clear c11
                by_cases c12 : x31_2 < (l2.length : Int)
                · rw [if_pos c12] at H
                  have c12b0 : decide (x31_2 < (l2.length : Int)) = true := decide_eq_true c12
                  clear c12
                  have H' := Aside0.mk H
                  clear H
                  have p160 : 0 ≤ (x31_2 : Int) := of_decide_eq_true (by first | (with_reducible assumption) | assumption)
                  have q160 : x31_2 < (l2.length : Int) := of_decide_eq_true (by first | (with_reducible assumption) | assumption)
                  obtain ⟨ad160, A160_0, c160_0, e160, hx160_0, hl160_0, hi160_0⟩ := at_L1 HR2.out x31_2 p160 q160
                  cases e160
                  have HR160_0 := Aside0.mk hi160_0
                  have HC160_0 := Aside0.mk hl160_0
                  clear hi160_0 hl160_0
                  replace p160 := eq_true p160
                  replace q160 := eq_true q160
                  go_wp2
                  go_loopg [11, 12, 37] k2 (fun kq v11 v12 v37 w' => ∃ (x11_3 : Int) (x12_3 : Int) (x37_3 : Int), v11 = .int .i64 x11_3 ∧ v12 = .int .i64 x12_3 ∧ v37 = .int .i64 x37_3 ∧ Aside0 (spec_OpenAfterRounds.l1 kq a3 x11_3 x12_3 l2 (l2.length : Int) x31_2 (rd_L1 l2 x31_2) ((rd_L1 l2 x31_2).length : Int) x37_3 = some (r1, r2, r3)) ∧ Aside0 (kq ≤ k2) ∧ Drawn0 w w')
                  case atStart => exact ⟨(x11_2), (x12_2), (0), (by first | rfl | (simp; done) | (simp [*]; done)), (by first | rfl | (simp; done) | (simp [*]; done)), (by first | rfl | (simp; done) | (simp [*]; done)), H', ⟨Nat.le_refl _⟩, by repeat (first | exact Drawn0.refl _ | apply Drawn0.step)⟩
                  case round =>
                    clear H'
                    try clear c1
                    try clear p1
                    try clear q1
                    try clear hx1
                    try clear c2
                    try clear p2
                    try clear c3
                    try clear c4
                    try clear c5
                    try clear c7
                    try clear c9
                    try clear c10
                    try clear c10b0
                    try clear c11
                    try clear c11b0
                    try clear c12
                    try clear c12b0
                    try clear hx160_0
                    try clear p160
                    try clear p2
                    try clear q160
                    obtain ⟨x11_3, x12_3, x37_3, rfl, rfl, rfl, HA, HK3, ⟨m3, rfl⟩⟩ := hrel
                    cases gk with
                    | zero => exact absurd HA.out (by simp [spec_OpenAfterRounds.l1])
                    | succ k3 =>
                      have H := HA.out
                      clear HA
                      simp only [spec_OpenAfterRounds.l1] at H
                      by_cases c13 : x37_3 < ((rd_L1 l2 x31_2).length : Int)
                      · rw [if_pos c13] at H
                        have c13b0 : decide (x37_3 < ((rd_L1 l2 x31_2).length : Int)) = true := decide_eq_true c13
                        clear c13
                        by_cases c14 : 0 ≤ x37_3
                        · rw [if_pos c14] at H
                          have c14b0 : decide (0 ≤ x37_3) = true := decide_eq_true c14
                          clear c14
                          by_cases c15 : x37_3 < ((rd_L1 l2 x31_2).length : Int)
                          · rw [if_pos c15] at H
                            have c15b0 : decide (x37_3 < ((rd_L1 l2 x31_2).length : Int)) = true := decide_eq_true c15
                            clear c15
                            by_cases c16 : (rd (rd_L1 l2 x31_2) x37_3) > a3
                            · rw [if_pos c16] at H
                              have c16b0 : decide (a3 < (rd (rd_L1 l2 x31_2) x37_3)) = true := decide_eq_true c16
                              clear c16
                              replace H := Option.bind_eq_some_iff.mp H
                              obtain ⟨t162, A170, H⟩ := H
                              replace H : (spec_OpenAfterRounds.l1 k3 a3 x11_3 t162 l2 (l2.length : Int) x31_2 (rd_L1 l2 x31_2) ((rd_L1 l2 x31_2).length : Int) (wrap64 (x37_3 + 1))) = some (r1, r2, r3) := H
                              have A17 := Aside0.mk A170
                              clear A170
                              have H' := Aside0.mk H
                              clear H
                              have p161 : 0 ≤ (x37_3 : Int) := of_decide_eq_true (by first | (with_reducible assumption) | assumption)
                              have q161 : x37_3 < ((rd_L1 l2 x31_2).length : Int) := of_decide_eq_true (by first | (with_reducible assumption) | assumption)
                              obtain ⟨ad161, e161, hx161_0⟩ := Kd.at_int HR160_0.out x37_3 p161 q161
                              cases e161
                              replace p161 := eq_true p161
                              replace q161 := eq_true q161
                              go_wp2_with (first | ((with_reducible refine gate_callee (f := 63) rfl ?_); refine goesL_ (some 47) rfl rfl Try.func63 (by kernel_rfl) rfl #[.int .i64 x12_3, .int .i64 (wrap64 ((rd (rd_L1 l2 x31_2) x37_3) - 1))] rfl (by (try simp only [List.map_toArray, List.map_cons, List.map_nil]); first | done | rfl | (simp only [List.length_drop, List.length_take]; rfl)) ?_; (with_reducible refine (spec_l1Least.calls x12_3 (wrap64 ((rd (rd_L1 l2 x31_2) x37_3) - 1)) t162 _ A17.out).mono ?_); rintro e w' ⟨rfl, ⟨nd, rfl⟩⟩; refine ⟨_, rfl, ?_⟩))
                              go_roundg k3
                              case measure => have := HJ4.out; have := HK2.out; have := HK3.out; omega
                              case rel => exact ⟨(x11_3), (t162), (wrap64 (x37_3 + 1)), (by first | rfl | (simp; done) | (simp [*]; done)), (by first | rfl | (simp; done) | (simp [*]; done)), (by first | rfl | (simp; done) | (simp [*]; done)), H', ⟨by have := HJ4.out; have := HK2.out; have := HK3.out; omega⟩, by repeat (first | exact Drawn0.refl _ | apply Drawn0.step)⟩
                            · rw [if_neg c16] at H
                              have c16b0 : decide (a3 < (rd (rd_L1 l2 x31_2) x37_3)) = false := decide_eq_false c16
                              clear c16
                              replace H := Option.bind_eq_some_iff.mp H
                              obtain ⟨t163, A180, H⟩ := H
                              replace H : (spec_OpenAfterRounds.l1 k3 a3 t163 x12_3 l2 (l2.length : Int) x31_2 (rd_L1 l2 x31_2) ((rd_L1 l2 x31_2).length : Int) (wrap64 (x37_3 + 1))) = some (r1, r2, r3) := H
                              have A18 := Aside0.mk A180
                              clear A180
                              have H' := Aside0.mk H
                              clear H
                              have p161 : 0 ≤ (x37_3 : Int) := of_decide_eq_true (by first | (with_reducible assumption) | assumption)
                              have q161 : x37_3 < ((rd_L1 l2 x31_2).length : Int) := of_decide_eq_true (by first | (with_reducible assumption) | assumption)
                              obtain ⟨ad161, e161, hx161_0⟩ := Kd.at_int HR160_0.out x37_3 p161 q161
                              cases e161
                              replace p161 := eq_true p161
                              replace q161 := eq_true q161
                              go_wp2_with (first | ((with_reducible refine gate_callee (f := 64) rfl ?_); refine goesL_ (some 50) rfl rfl Try.func64 (by kernel_rfl) rfl #[.int .i64 x11_3, .int .i64 (rd (rd_L1 l2 x31_2) x37_3)] rfl (by (try simp only [List.map_toArray, List.map_cons, List.map_nil]); first | done | rfl | (simp only [List.length_drop, List.length_take]; rfl)) ?_; (with_reducible refine (spec_l1Most.calls x11_3 (rd (rd_L1 l2 x31_2) x37_3) t163 _ A18.out).mono ?_); rintro e w' ⟨rfl, ⟨nd, rfl⟩⟩; refine ⟨_, rfl, ?_⟩))
                              go_roundg k3
                              case measure => have := HJ4.out; have := HK2.out; have := HK3.out; omega
                              case rel => exact ⟨(t163), (x12_3), (wrap64 (x37_3 + 1)), (by first | rfl | (simp; done) | (simp [*]; done)), (by first | rfl | (simp; done) | (simp [*]; done)), (by first | rfl | (simp; done) | (simp [*]; done)), H', ⟨by have := HJ4.out; have := HK2.out; have := HK3.out; omega⟩, by repeat (first | exact Drawn0.refl _ | apply Drawn0.step)⟩
                          · rw [if_neg c15] at H
                            exact absurd H (by simp)
                        · rw [if_neg c14] at H
                          exact absurd H (by simp)
                      · rw [if_neg c13] at H
                        have c13b0 : decide (x37_3 < ((rd_L1 l2 x31_2).length : Int)) = false := decide_eq_false c13
                        clear c13
                        have H' := Aside0.mk H
                        clear H
                        go_wp2
                        go_roundg k3
                        case measure => have := HJ4.out; have := HK2.out; have := HK3.out; omega
                        case rel => exact ⟨(x11_3), (x12_3), (wrap64 (x31_2 + 1)), (by first | rfl | (simp; done) | (simp [*]; done)), (by first | rfl | (simp; done) | (simp [*]; done)), (by first | rfl | (simp; done) | (simp [*]; done)), H', ⟨by have := HJ4.out; have := HK2.out; have := HK3.out; omega⟩, by repeat (first | exact Drawn0.refl _ | apply Drawn0.step)⟩
                · rw [if_neg c12] at H
                  exact absurd H (by simp)
              · rw [if_neg c11] at H
                exact absurd H (by simp)
            · rw [if_neg c10] at H
              have c10b0 : decide (x31_2 < (l2.length : Int)) = false := decide_eq_false c10
              clear c10
              simp only [Option.some.injEq, Prod.mk.injEq] at H
              obtain ⟨rfl, rfl, rfl⟩ := H
              go_wp2
              go_ret3
              exact ⟨by first | rfl | (simp; done) | (simp [*]; done), by repeat (first | exact Drawn0.refl _ | apply Drawn0.step)⟩

/-! ### impl_OpenAfterRounds: function 33 -/
def impl_OpenAfterRounds.f (k : Nat) (a0 : Int) (a1 : Int) (l2 : List (List Int)) (a3 : Int) : Option (Int × Int × Bool) := some (Go.Proofs.Ytnolocmcjcjjcaa.Rd.openRes a0 a1 l2 a3)
theorem impl_OpenAfterRounds.mono : ∀ a0 a1 a2 a3 k, LeO (impl_OpenAfterRounds.f k a0 a1 a2 a3) (impl_OpenAfterRounds.f (k + 1) a0 a1 a2 a3) := fun a0 a1 a2 a3 k => LeO.refl _
theorem impl_OpenAfterRounds.calls (k : Nat) (a0 : Int) (a1 : Int) (A2 : Option Addr) (c2 : Nat) (l2 : List (List Int)) (a3 : Int) (r1 : Int) (r2 : Int) (r3 : Bool) (w : World) (hr2 : Kd.C (Kd.slice 3 (Kd.int .i64)) w A2 l2.length l2) (hc2 : l2.length ≤ c2) (h : impl_OpenAfterRounds.f k a0 a1 l2 a3 = some (r1, r2, r3)) :
    Calls Try.prog 33 #[.int .i64 a0, .int .i64 a1, .slice A2 l2.length c2, .int .i64 a3] w fun e w' => e = .returned (.tuple #[.int .i64 r1, .int .i64 r2, .bool r3]) ∧ Below w.heap.size w w' := by
  have e_ := Option.some.inj h
  have h_ := Go.Proofs.Ytnolocmcjcjjcaa.Rd.open_calls A2 c2 l2 a0 a1 a3 w hr2
  rw [e_] at h_
  exact h_

/-! ### laws_FnExactOpenAfterRounds: function 10 -/
def laws_FnExactOpenAfterRounds.f (k : Nat) (a0 : Int) (a1 : Int) (l2 : List (List Int)) (a3 : Int) : Option (Bool) := (laws_szIntSS.f k l2 1000000).bind fun t170 => (if t170 < 0 then (some true) else ((laws_toIntSS.f k l2 false).bind fun t171 => ((spec_OpenAfterRounds.f k a0 a1 t171 a3).bind fun bt174 => ((laws_toIntSS.f k l2 false).bind fun t177 => ((impl_OpenAfterRounds.f k a0 a1 t177 a3).bind fun bt180 => (if bt180.1 = bt174.1 then (if bt180.2.1 = bt174.2.1 then (if (bt180.2.2 != bt174.2.2) = true then (some false) else ((laws_toIntSS.f k l2 false).bind fun t183 => ((laws_intactIntSS.f k t177 t183).bind fun t186 => (if t186 = true then ((laws_toIntSS.f k l2 true).bind fun t187 => ((impl_OpenAfterRounds.f k a0 a1 t187 a3).bind fun bt190 => (if bt190.1 = bt174.1 then (if bt190.2.1 = bt174.2.1 then (if (bt190.2.2 != bt174.2.2) = true then (some false) else (some true)) else (some false)) else (some false)))) else (some false))))) else (some false)) else (some false)))))))
theorem laws_FnExactOpenAfterRounds.mono : ∀ a0 a1 a2 a3 k, LeO (laws_FnExactOpenAfterRounds.f k a0 a1 a2 a3) (laws_FnExactOpenAfterRounds.f (k + 1) a0 a1 a2 a3) := by
  intro a0 a1 a2 a3 k
  unfold laws_FnExactOpenAfterRounds.f
  repeat' first
      | (with_reducible exact impl_OpenAfterRounds.mono _ _ _ _ _)
      | (with_reducible exact laws_intactIntSS.mono _ _ _)
      | (with_reducible exact laws_szIntSS.mono _ _ _)
      | (with_reducible exact laws_toIntSS.mono _ _ _)
      | (with_reducible exact spec_OpenAfterRounds.mono _ _ _ _ _)
      | (with_reducible exact LeO.refl _)
      | (with_reducible exact LeO.none _)
      | (with_reducible refine LeO.ite ?_ ?_)
      | (with_reducible refine LeO.bind ?_ (fun _ => ?_))
      | exact impl_OpenAfterRounds.mono _ _ _ _ _
      | exact laws_intactIntSS.mono _ _ _
      | exact laws_szIntSS.mono _ _ _
      | exact laws_toIntSS.mono _ _ _
      | exact spec_OpenAfterRounds.mono _ _ _ _ _
      | exact LeO.none _
      | refine LeO.ite ?_ ?_
      | refine LeO.bind ?_ (fun _ => ?_)
set_option maxHeartbeats 8000000 in
set_option maxRecDepth 100000 in
theorem laws_FnExactOpenAfterRounds.calls (k : Nat) (a0 : Int) (a1 : Int) (A2 : Option Addr) (c2 : Nat) (l2 : List (List Int)) (a3 : Int) (r : Bool) (w : World) (hr2 : Kd.C (Kd.slice 3 (Kd.int .i64)) w A2 l2.length l2) (hc2 : l2.length ≤ c2) (h : laws_FnExactOpenAfterRounds.f k a0 a1 l2 a3 = some r) (hr_ : r = true) :
    Calls Try.prog 10 #[.int .i64 a0, .int .i64 a1, .slice A2 l2.length c2, .int .i64 a3] w fun e w' => e = .returned (.bool r) ∧ Below w.heap.size w w' := by
  subst hr_
  have HR2 := Aside0.mk hr2
  have HC2 := Aside0.mk hc2
  clear hr2 hc2
  have HB := Aside0.mk (Below.refl w.heap.size w)
  have H : ((laws_szIntSS.f k l2 1000000).bind fun t170 => (if t170 < 0 then (some true) else ((laws_toIntSS.f k l2 false).bind fun t171 => ((spec_OpenAfterRounds.f k a0 a1 t171 a3).bind fun bt174 => ((laws_toIntSS.f k l2 false).bind fun t177 => ((impl_OpenAfterRounds.f k a0 a1 t177 a3).bind fun bt180 => (if bt180.1 = bt174.1 then (if bt180.2.1 = bt174.2.1 then (if (bt180.2.2 != bt174.2.2) = true then (some false) else ((laws_toIntSS.f k l2 false).bind fun t183 => ((laws_intactIntSS.f k t177 t183).bind fun t186 => (if t186 = true then ((laws_toIntSS.f k l2 true).bind fun t187 => ((impl_OpenAfterRounds.f k a0 a1 t187 a3).bind fun bt190 => (if bt190.1 = bt174.1 then (if bt190.2.1 = bt174.2.1 then (if (bt190.2.2 != bt174.2.2) = true then (some false) else (some true)) else (some false)) else (some false)))) else (some false))))) else (some false)) else (some false)))))))) = some true := h
  clear h
  replace H := Option.bind_eq_some_iff.mp H
  obtain ⟨t170, A50, H⟩ := H
  replace H : (if t170 < 0 then (some true) else ((laws_toIntSS.f k l2 false).bind fun t171 => ((spec_OpenAfterRounds.f k a0 a1 t171 a3).bind fun bt174 => ((laws_toIntSS.f k l2 false).bind fun t177 => ((impl_OpenAfterRounds.f k a0 a1 t177 a3).bind fun bt180 => (if bt180.1 = bt174.1 then (if bt180.2.1 = bt174.2.1 then (if (bt180.2.2 != bt174.2.2) = true then (some false) else ((laws_toIntSS.f k l2 false).bind fun t183 => ((laws_intactIntSS.f k t177 t183).bind fun t186 => (if t186 = true then ((laws_toIntSS.f k l2 true).bind fun t187 => ((impl_OpenAfterRounds.f k a0 a1 t187 a3).bind fun bt190 => (if bt190.1 = bt174.1 then (if bt190.2.1 = bt174.2.1 then (if (bt190.2.2 != bt174.2.2) = true then (some false) else (some true)) else (some false)) else (some false)))) else (some false))))) else (some false)) else (some false))))))) = some true := H
  have A5 := Aside0.mk A50
  clear A50
  by_cases c6 : t170 < 0
  · rw [if_pos c6] at H
    have c6b0 : decide (t170 < 0) = true := decide_eq_true c6
    clear c6
    first
      | (cases H; done)
      | (clear H
         go_enter Try.func10, Try.ntmps10
         go_wp2_with (first | ((with_reducible refine gate_callee (f := 25) rfl ?_); refine goesL_ (some 22) rfl rfl Try.func25 (by kernel_rfl) rfl #[.slice A2 l2.length c2, .int .i64 1000000] rfl (by (try simp only [List.map_toArray, List.map_cons, List.map_nil]); first | done | rfl | (simp only [List.length_drop, List.length_take]; rfl)) ?_; (with_reducible refine (laws_szIntSS.calls k _ _ l2 1000000 t170 _ ?side1 ?side2 A5.out).mono ?_); (case side1 => repeat (first | exact HR2.out | (with_reducible refine Kd.C_alloc ?_ _) | (with_reducible refine Kd.C_drewN ?_ _) | (with_reducible refine Kd.C_drew ?_))); (case side2 => exact HC2.out); rintro e w' ⟨rfl, ⟨nd, rfl⟩⟩; refine ⟨_, rfl, ?_⟩))
         go_ret
         exact ⟨by first | rfl | (simp [errW_none, errW_some] <;> rfl) | (simp [*, errW_none, errW_some] <;> rfl), by repeat (first | (with_reducible first | exact HB.out | apply below_alloc | apply pw_below_drewN | apply below_drew1) | exact HB.out)⟩)
  · rw [if_neg c6] at H
    have c6b0 : decide (t170 < 0) = false := decide_eq_false c6
    clear c6
    have HLENl2 := Aside0.mk (laws_szIntSS.le A5.out c6b0 (Kd.C_max HR2.out) (C_rows_max HR2.out))
    replace H := Option.bind_eq_some_iff.mp H
    obtain ⟨t171, A70, H⟩ := H
    replace H : ((spec_OpenAfterRounds.f k a0 a1 t171 a3).bind fun bt174 => ((laws_toIntSS.f k l2 false).bind fun t177 => ((impl_OpenAfterRounds.f k a0 a1 t177 a3).bind fun bt180 => (if bt180.1 = bt174.1 then (if bt180.2.1 = bt174.2.1 then (if (bt180.2.2 != bt174.2.2) = true then (some false) else ((laws_toIntSS.f k l2 false).bind fun t183 => ((laws_intactIntSS.f k t177 t183).bind fun t186 => (if t186 = true then ((laws_toIntSS.f k l2 true).bind fun t187 => ((impl_OpenAfterRounds.f k a0 a1 t187 a3).bind fun bt190 => (if bt190.1 = bt174.1 then (if bt190.2.1 = bt174.2.1 then (if (bt190.2.2 != bt174.2.2) = true then (some false) else (some true)) else (some false)) else (some false)))) else (some false))))) else (some false)) else (some false))))) = some true := H
    have A7 := Aside0.mk A70
    clear A70
    replace H := Option.bind_eq_some_iff.mp H
    obtain ⟨⟨t174, t175, t176⟩, A80, H⟩ := H
    replace H : ((laws_toIntSS.f k l2 false).bind fun t177 => ((impl_OpenAfterRounds.f k a0 a1 t177 a3).bind fun bt180 => (if bt180.1 = t174 then (if bt180.2.1 = t175 then (if (bt180.2.2 != t176) = true then (some false) else ((laws_toIntSS.f k l2 false).bind fun t183 => ((laws_intactIntSS.f k t177 t183).bind fun t186 => (if t186 = true then ((laws_toIntSS.f k l2 true).bind fun t187 => ((impl_OpenAfterRounds.f k a0 a1 t187 a3).bind fun bt190 => (if bt190.1 = t174 then (if bt190.2.1 = t175 then (if (bt190.2.2 != t176) = true then (some false) else (some true)) else (some false)) else (some false)))) else (some false))))) else (some false)) else (some false)))) = some true := H
    have A8 := Aside0.mk A80
    clear A80
    replace H := Option.bind_eq_some_iff.mp H
    obtain ⟨t177, A90, H⟩ := H
    replace H : ((impl_OpenAfterRounds.f k a0 a1 t177 a3).bind fun bt180 => (if bt180.1 = t174 then (if bt180.2.1 = t175 then (if (bt180.2.2 != t176) = true then (some false) else ((laws_toIntSS.f k l2 false).bind fun t183 => ((laws_intactIntSS.f k t177 t183).bind fun t186 => (if t186 = true then ((laws_toIntSS.f k l2 true).bind fun t187 => ((impl_OpenAfterRounds.f k a0 a1 t187 a3).bind fun bt190 => (if bt190.1 = t174 then (if bt190.2.1 = t175 then (if (bt190.2.2 != t176) = true then (some false) else (some true)) else (some false)) else (some false)))) else (some false))))) else (some false)) else (some false))) = some true := H
    have A9 := Aside0.mk A90
    clear A90
    replace H := Option.bind_eq_some_iff.mp H
    obtain ⟨⟨t180, t181, t182⟩, A100, H⟩ := H
    replace H : (if t180 = t174 then (if t181 = t175 then (if (t182 != t176) = true then (some false) else ((laws_toIntSS.f k l2 false).bind fun t183 => ((laws_intactIntSS.f k t177 t183).bind fun t186 => (if t186 = true then ((laws_toIntSS.f k l2 true).bind fun t187 => ((impl_OpenAfterRounds.f k a0 a1 t187 a3).bind fun bt190 => (if bt190.1 = t174 then (if bt190.2.1 = t175 then (if (bt190.2.2 != t176) = true then (some false) else (some true)) else (some false)) else (some false)))) else (some false))))) else (some false)) else (some false)) = some true := H
    have A10 := Aside0.mk A100
    clear A100
    by_cases c11 : t180 = t174
    · rw [if_pos c11] at H
      have c11b0 : (t180 == t174) = true := beq_iff_eq.mpr c11
      have c11b1 : (t180 != t174) = false := bne_eq_false_iff_eq.mpr c11
      clear c11
      by_cases c12 : t181 = t175
      · rw [if_pos c12] at H
        have c12b0 : (t181 == t175) = true := beq_iff_eq.mpr c12
        have c12b1 : (t181 != t175) = false := bne_eq_false_iff_eq.mpr c12
        clear c12
        by_cases c13 : (t182 != t176) = true
        · rw [if_pos c13] at H
          have c13b0 : (t182 != t176) = true := c13
          (try (have c13b1 : decide (t182 = t176) = false := by simpa using c13))
          (try (have c13b2 : (t182 == t176) = false := by simpa using c13))
          (try (have c13b3 : ¬ (t182 = t176) := by simpa using c13))
          clear c13
          cases H
        · rw [if_neg c13] at H
          have c13b0 : (t182 != t176) = false := by simpa using c13
          (try (have c13b1 : decide (t182 = t176) = true := by simpa using c13))
          (try (have c13b2 : (t182 == t176) = true := by simpa using c13))
          clear c13
          replace H := Option.bind_eq_some_iff.mp H
          obtain ⟨t183, A190, H⟩ := H
          replace H : ((laws_intactIntSS.f k t177 t183).bind fun t186 => (if t186 = true then ((laws_toIntSS.f k l2 true).bind fun t187 => ((impl_OpenAfterRounds.f k a0 a1 t187 a3).bind fun bt190 => (if bt190.1 = t174 then (if bt190.2.1 = t175 then (if (bt190.2.2 != t176) = true then (some false) else (some true)) else (some false)) else (some false)))) else (some false))) = some true := H
          have A19 := Aside0.mk A190
          clear A190
          replace H := Option.bind_eq_some_iff.mp H
          obtain ⟨t186, A200, H⟩ := H
          replace H : (if t186 = true then ((laws_toIntSS.f k l2 true).bind fun t187 => ((impl_OpenAfterRounds.f k a0 a1 t187 a3).bind fun bt190 => (if bt190.1 = t174 then (if bt190.2.1 = t175 then (if (bt190.2.2 != t176) = true then (some false) else (some true)) else (some false)) else (some false)))) else (some false)) = some true := H
          have A20 := Aside0.mk A200
          clear A200
          by_cases c21 : t186 = true
          · subst c21
            have H1 : ((laws_toIntSS.f k l2 true).bind fun t187 => ((impl_OpenAfterRounds.f k a0 a1 t187 a3).bind fun bt190 => (if bt190.1 = t174 then (if bt190.2.1 = t175 then (if (bt190.2.2 != t176) = true then (some false) else (some true)) else (some false)) else (some false)))) = some true := by rw [if_pos rfl] at H; exact H
            clear H
            have H := H1
            clear H1
            replace H := Option.bind_eq_some_iff.mp H
            obtain ⟨t187, A220, H⟩ := H
            replace H : ((impl_OpenAfterRounds.f k a0 a1 t187 a3).bind fun bt190 => (if bt190.1 = t174 then (if bt190.2.1 = t175 then (if (bt190.2.2 != t176) = true then (some false) else (some true)) else (some false)) else (some false))) = some true := H
            have A22 := Aside0.mk A220
            clear A220
            replace H := Option.bind_eq_some_iff.mp H
            obtain ⟨⟨t190, t191, t192⟩, A230, H⟩ := H
            replace H : (if t190 = t174 then (if t191 = t175 then (if (t192 != t176) = true then (some false) else (some true)) else (some false)) else (some false)) = some true := H
            have A23 := Aside0.mk A230
            clear A230
            by_cases c24 : t190 = t174
            · rw [if_pos c24] at H
              have c24b0 : (t190 == t174) = true := beq_iff_eq.mpr c24
              have c24b1 : (t190 != t174) = false := bne_eq_false_iff_eq.mpr c24
              clear c24
              by_cases c25 : t191 = t175
              · rw [if_pos c25] at H
                have c25b0 : (t191 == t175) = true := beq_iff_eq.mpr c25
                have c25b1 : (t191 != t175) = false := bne_eq_false_iff_eq.mpr c25
                clear c25
                by_cases c26 : (t192 != t176) = true
                · rw [if_pos c26] at H
                  have c26b0 : (t192 != t176) = true := c26
                  (try (have c26b1 : decide (t192 = t176) = false := by simpa using c26))
                  (try (have c26b2 : (t192 == t176) = false := by simpa using c26))
                  (try (have c26b3 : ¬ (t192 = t176) := by simpa using c26))
                  clear c26
                  cases H
                · rw [if_neg c26] at H
                  have c26b0 : (t192 != t176) = false := by simpa using c26
                  (try (have c26b1 : decide (t192 = t176) = true := by simpa using c26))
                  (try (have c26b2 : (t192 == t176) = true := by simpa using c26))
                  clear c26
                  first
                    | (cases H; done)
                    | (clear H
                       go_enter Try.func10, Try.ntmps10
                       go_wp2_with (first | ((with_reducible refine gate_callee (f := 25) rfl ?_); refine goesL_ (some 22) rfl rfl Try.func25 (by kernel_rfl) rfl #[.slice A2 l2.length c2, .int .i64 1000000] rfl (by (try simp only [List.map_toArray, List.map_cons, List.map_nil]); first | done | rfl | (simp only [List.length_drop, List.length_take]; rfl)) ?_; (with_reducible refine (laws_szIntSS.calls k _ _ l2 1000000 t170 _ ?side1 ?side2 A5.out).mono ?_); (case side1 => repeat (first | exact HR2.out | (with_reducible refine Kd.C_alloc ?_ _) | (with_reducible refine Kd.C_drewN ?_ _) | (with_reducible refine Kd.C_drew ?_))); (case side2 => exact HC2.out); rintro e w' ⟨rfl, ⟨nd, rfl⟩⟩; refine ⟨_, rfl, ?_⟩) | ((with_reducible refine gate_callee (f := 27) rfl ?_); refine goesL_ (some 29) rfl rfl Try.func27 (by kernel_rfl) rfl #[.slice A2 l2.length c2, .bool false] rfl (by (try simp only [List.map_toArray, List.map_cons, List.map_nil]); first | done | rfl | (simp only [List.length_drop, List.length_take]; rfl)) ?_; (with_reducible refine (laws_toIntSS.callsX k _ _ l2 false t171 _ HLENl2.out ?side1 ?side2 A7.out).mono ?_); (case side1 => repeat (first | exact HR2.out | (with_reducible refine Kd.C_alloc ?_ _) | (with_reducible refine Kd.C_drewN ?_ _) | (with_reducible refine Kd.C_drew ?_))); (case side2 => exact HC2.out); rintro e w37 ⟨v172, rfl, ⟨ho0, hx0⟩, hb⟩; refine ⟨_, rfl, ?_⟩; have HXv172 := Aside0.mk (hx0 rfl); clear hx0; have n0_ := Aside0.mk (Kd.S_lower ho0 (below_size (by repeat (first | (with_reducible first | exact HB.out | apply below_alloc | apply pw_below_drewN | apply below_drew1) | exact HB.out)))); have n1_ := Aside0.mk (below_step (by repeat (first | (with_reducible first | exact HB.out | apply below_alloc | apply pw_below_drewN | apply below_drew1) | exact HB.out)) hb); clear HB; have HO173 := n0_; have HB := n1_; clear n0_ n1_; (try clear hb); (try clear hb2); (try clear hk); (try clear hi); (try clear ho0); obtain ⟨Ao38, co38, eo38⟩ := Kd.S_slice HO173.out; subst eo38) | ((with_reducible refine gate_callee (f := 32) rfl ?_); refine goesL_ (some 31) rfl rfl Try.func32 (by kernel_rfl) rfl #[.int .i64 a0, .int .i64 a1, .slice Ao38 t171.length co38, .int .i64 a3] rfl (by (try simp only [List.map_toArray, List.map_cons, List.map_nil]); first | done | rfl | (simp only [List.length_drop, List.length_take]; rfl)) ?_; (with_reducible refine (spec_OpenAfterRounds.calls k a0 a1 _ _ t171 a3 t174 t175 t176 _ ?side1 ?side2 A8.out).mono ?_); (case side1 => repeat (first | exact (Kd.S_reads' HO173.out).2.2 | (with_reducible refine Kd.C_alloc ?_ _) | (with_reducible refine Kd.C_drewN ?_ _) | (with_reducible refine Kd.C_drew ?_))); (case side2 => exact (Kd.S_reads' HO173.out).2.1); rintro e w' ⟨rfl, ⟨nd, rfl⟩⟩; refine ⟨_, rfl, ?_⟩) | ((with_reducible refine gate_callee (f := 27) rfl ?_); refine goesL_ (some 36) rfl rfl Try.func27 (by kernel_rfl) rfl #[.slice A2 l2.length c2, .bool false] rfl (by (try simp only [List.map_toArray, List.map_cons, List.map_nil]); first | done | rfl | (simp only [List.length_drop, List.length_take]; rfl)) ?_; (with_reducible refine (laws_toIntSS.callsX k _ _ l2 false t177 _ HLENl2.out ?side1 ?side2 A9.out).mono ?_); (case side1 => repeat (first | exact (Kd.C_below HR2.out (by repeat (first | (with_reducible first | exact HB.out | apply below_alloc | apply pw_below_drewN | apply below_drew1) | exact HB.out))) | (with_reducible refine Kd.C_alloc ?_ _) | (with_reducible refine Kd.C_drewN ?_ _) | (with_reducible refine Kd.C_drew ?_))); (case side2 => exact HC2.out); rintro e w39 ⟨v178, rfl, ⟨ho0, hx0⟩, hb⟩; refine ⟨_, rfl, ?_⟩; have HXv178 := Aside0.mk (hx0 rfl); clear hx0; have m_ := Aside0.mk (Sp.below (by (with_reducible repeat (first | apply Sp.alloc | apply Sp.drewN | apply Sp.drew)); exact HXv172.out) hb); clear HXv172; have HXv172 := m_; clear m_; have n0_ := Aside0.mk (Kd.S_elder' (by (with_reducible repeat (first | apply Kd.S_alloc | apply Kd.S_drewN | apply Kd.S_drew)); exact HO173.out) (Kd.S_base ho0) hb); have n1_ := Aside0.mk (Kd.S_lower (Kd.S_new' ho0 (Kd.S_lt (by (with_reducible repeat (first | apply Kd.S_alloc | apply Kd.S_drewN | apply Kd.S_drew)); exact HO173.out))) (below_size (by repeat (first | (with_reducible first | exact HB.out | apply below_alloc | apply pw_below_drewN | apply below_drew1) | exact HB.out)))); have n2_ := Aside0.mk (below_step (by repeat (first | (with_reducible first | exact HB.out | apply below_alloc | apply pw_below_drewN | apply below_drew1) | exact HB.out)) hb); clear HO173; clear HB; have HO173 := n0_; have HO179 := n1_; have HB := n2_; clear n0_ n1_ n2_; (try clear hb); (try clear hb2); (try clear hk); (try clear hi); (try clear ho0); obtain ⟨Ao40, co40, eo40⟩ := Kd.S_slice HO179.out; subst eo40) | ((with_reducible refine gate_callee (f := 33) rfl ?_); refine goesL_ (some 42) rfl rfl Try.func33 (by kernel_rfl) rfl #[.int .i64 a0, .int .i64 a1, .slice Ao40 t177.length co40, .int .i64 a3] rfl (by (try simp only [List.map_toArray, List.map_cons, List.map_nil]); first | done | rfl | (simp only [List.length_drop, List.length_take]; rfl)) ?_; (with_reducible refine (impl_OpenAfterRounds.calls k a0 a1 _ _ t177 a3 t180 t181 t182 _ ?side1 ?side2 A10.out).mono ?_); (case side1 => repeat (first | exact (Kd.S_reads' HO179.out).2.2 | (with_reducible refine Kd.C_alloc ?_ _) | (with_reducible refine Kd.C_drewN ?_ _) | (with_reducible refine Kd.C_drew ?_))); (case side2 => exact (Kd.S_reads' HO179.out).2.1); rintro e w41 ⟨rfl, hb⟩; refine ⟨_, rfl, ?_⟩; have m_ := Aside0.mk (Sp.below (by (with_reducible repeat (first | apply Sp.alloc | apply Sp.drewN | apply Sp.drew)); exact HXv172.out) hb); clear HXv172; have HXv172 := m_; clear m_; have m_ := Aside0.mk (Sp.below (by (with_reducible repeat (first | apply Sp.alloc | apply Sp.drewN | apply Sp.drew)); exact HXv178.out) hb); clear HXv178; have HXv178 := m_; clear m_; have n0_ := Aside0.mk (Kd.S_below (by (with_reducible repeat (first | apply Kd.S_alloc | apply Kd.S_drewN | apply Kd.S_drew)); exact HO173.out) hb); have n1_ := Aside0.mk (Kd.S_below (by (with_reducible repeat (first | apply Kd.S_alloc | apply Kd.S_drewN | apply Kd.S_drew)); exact HO179.out) hb); have n2_ := Aside0.mk (below_step (by repeat (first | (with_reducible first | exact HB.out | apply below_alloc | apply pw_below_drewN | apply below_drew1) | exact HB.out)) hb); clear HO173; clear HO179; clear HB; have HO173 := n0_; have HO179 := n1_; have HB := n2_; clear n0_ n1_ n2_; (try clear hb); (try clear hb2); (try clear hk); (try clear hi)) | ((with_reducible refine gate_callee (f := 27) rfl ?_); refine goesL_ (some 61) rfl rfl Try.func27 (by kernel_rfl) rfl #[.slice A2 l2.length c2, .bool false] rfl (by (try simp only [List.map_toArray, List.map_cons, List.map_nil]); first | done | rfl | (simp only [List.length_drop, List.length_take]; rfl)) ?_; (with_reducible refine (laws_toIntSS.callsX k _ _ l2 false t183 _ HLENl2.out ?side1 ?side2 A19.out).mono ?_); (case side1 => repeat (first | exact (Kd.C_below HR2.out HB.out) | (with_reducible refine Kd.C_alloc ?_ _) | (with_reducible refine Kd.C_drewN ?_ _) | (with_reducible refine Kd.C_drew ?_))); (case side2 => exact HC2.out); rintro e w42 ⟨v184, rfl, ⟨ho0, hx0⟩, hb⟩; refine ⟨_, rfl, ?_⟩; have HXv184 := Aside0.mk (hx0 rfl); clear hx0; have m_ := Aside0.mk (Sp.below (by (with_reducible repeat (first | apply Sp.alloc | apply Sp.drewN | apply Sp.drew)); exact HXv172.out) hb); clear HXv172; have HXv172 := m_; clear m_; have m_ := Aside0.mk (Sp.below (by (with_reducible repeat (first | apply Sp.alloc | apply Sp.drewN | apply Sp.drew)); exact HXv178.out) hb); clear HXv178; have HXv178 := m_; clear m_; have n0_ := Aside0.mk (Kd.S_elder' (by (with_reducible repeat (first | apply Kd.S_alloc | apply Kd.S_drewN | apply Kd.S_drew)); exact HO173.out) (Kd.S_base ho0) hb); have n1_ := Aside0.mk (Kd.S_elder' (by (with_reducible repeat (first | apply Kd.S_alloc | apply Kd.S_drewN | apply Kd.S_drew)); exact HO179.out) (Kd.S_base ho0) hb); have n2_ := Aside0.mk (Kd.S_lower (Kd.S_new' (Kd.S_new' ho0 (Kd.S_lt (by (with_reducible repeat (first | apply Kd.S_alloc | apply Kd.S_drewN | apply Kd.S_drew)); exact HO173.out))) (Kd.S_lt (by (with_reducible repeat (first | apply Kd.S_alloc | apply Kd.S_drewN | apply Kd.S_drew)); exact HO179.out))) (below_size (by repeat (first | (with_reducible first | exact HB.out | apply below_alloc | apply pw_below_drewN | apply below_drew1) | exact HB.out)))); have n3_ := Aside0.mk (below_step (by repeat (first | (with_reducible first | exact HB.out | apply below_alloc | apply pw_below_drewN | apply below_drew1) | exact HB.out)) hb); clear HO173; clear HO179; clear HB; have HO173 := n0_; have HO179 := n1_; have HO185 := n2_; have HB := n3_; clear n0_ n1_ n2_ n3_; (try clear hb); (try clear hb2); (try clear hk); (try clear hi); (try clear ho0); obtain ⟨Ao43, co43, eo43⟩ := Kd.S_slice HO185.out; subst eo43) | ((with_reducible refine gate_callee (f := 29) rfl ?_); refine goesL_ (some 62) rfl rfl Try.func29 (by kernel_rfl) rfl #[.slice Ao40 t177.length co40, .slice Ao43 t183.length co43] rfl (by (try simp only [List.map_toArray, List.map_cons, List.map_nil]); first | done | rfl | (simp only [List.length_drop, List.length_take]; rfl)) ?_; (with_reducible refine (laws_intactIntSS.callsX _ _ _ _ _ _ l2 _ HLENl2.out (laws_toIntSS.len HLENl2.out A9.out) (laws_toIntSS.len HLENl2.out A19.out) ?side1 ?side2).mono ?_); (case side1 => exact (by (with_reducible repeat (first | apply Sp.alloc | apply Sp.drewN | apply Sp.drew)); exact HXv178.out)); (case side2 => exact (by (with_reducible repeat (first | apply Sp.alloc | apply Sp.drewN | apply Sp.drew)); exact HXv184.out)); rintro e w' ⟨rfl, ⟨nd, rfl⟩⟩; refine ⟨_, rfl, ?_⟩) | ((with_reducible refine gate_callee (f := 27) rfl ?_); refine goesL_ (some 68) rfl rfl Try.func27 (by kernel_rfl) rfl #[.slice A2 l2.length c2, .bool true] rfl (by (try simp only [List.map_toArray, List.map_cons, List.map_nil]); first | done | rfl | (simp only [List.length_drop, List.length_take]; rfl)) ?_; (with_reducible refine (laws_toIntSS.callsX k _ _ l2 true t187 _ HLENl2.out ?side1 ?side2 A22.out).mono ?_); (case side1 => repeat (first | exact (Kd.C_below HR2.out (by repeat (first | (with_reducible first | exact HB.out | apply below_alloc | apply pw_below_drewN | apply below_drew1) | exact HB.out))) | (with_reducible refine Kd.C_alloc ?_ _) | (with_reducible refine Kd.C_drewN ?_ _) | (with_reducible refine Kd.C_drew ?_))); (case side2 => exact HC2.out); rintro e w44 ⟨v188, rfl, ⟨ho0, hx0⟩, hb⟩; refine ⟨_, rfl, ?_⟩; clear hx0; have n0_ := Aside0.mk (Kd.S_elder' (by (with_reducible repeat (first | apply Kd.S_alloc | apply Kd.S_drewN | apply Kd.S_drew)); exact HO173.out) (Kd.S_base ho0) hb); have n1_ := Aside0.mk (Kd.S_elder' (by (with_reducible repeat (first | apply Kd.S_alloc | apply Kd.S_drewN | apply Kd.S_drew)); exact HO179.out) (Kd.S_base ho0) hb); have n2_ := Aside0.mk (Kd.S_elder' (by (with_reducible repeat (first | apply Kd.S_alloc | apply Kd.S_drewN | apply Kd.S_drew)); exact HO185.out) (Kd.S_base ho0) hb); have n3_ := Aside0.mk (Kd.S_lower (Kd.S_new' (Kd.S_new' (Kd.S_new' ho0 (Kd.S_lt (by (with_reducible repeat (first | apply Kd.S_alloc | apply Kd.S_drewN | apply Kd.S_drew)); exact HO173.out))) (Kd.S_lt (by (with_reducible repeat (first | apply Kd.S_alloc | apply Kd.S_drewN | apply Kd.S_drew)); exact HO179.out))) (Kd.S_lt (by (with_reducible repeat (first | apply Kd.S_alloc | apply Kd.S_drewN | apply Kd.S_drew)); exact HO185.out))) (below_size (by repeat (first | (with_reducible first | exact HB.out | apply below_alloc | apply pw_below_drewN | apply below_drew1) | exact HB.out)))); have n4_ := Aside0.mk (below_step (by repeat (first | (with_reducible first | exact HB.out | apply below_alloc | apply pw_below_drewN | apply below_drew1) | exact HB.out)) hb); clear HO173; clear HO179; clear HO185; clear HB; have HO173 := n0_; have HO179 := n1_; have HO185 := n2_; have HO189 := n3_; have HB := n4_; clear n0_ n1_ n2_ n3_ n4_; (try clear hb); (try clear hb2); (try clear hk); (try clear hi); (try clear ho0); obtain ⟨Ao45, co45, eo45⟩ := Kd.S_slice HO189.out; subst eo45) | ((with_reducible refine gate_callee (f := 33) rfl ?_); refine goesL_ (some 70) rfl rfl Try.func33 (by kernel_rfl) rfl #[.int .i64 a0, .int .i64 a1, .slice Ao45 t187.length co45, .int .i64 a3] rfl (by (try simp only [List.map_toArray, List.map_cons, List.map_nil]); first | done | rfl | (simp only [List.length_drop, List.length_take]; rfl)) ?_; (with_reducible refine (impl_OpenAfterRounds.calls k a0 a1 _ _ t187 a3 t190 t191 t192 _ ?side1 ?side2 A23.out).mono ?_); (case side1 => repeat (first | exact (Kd.S_reads' HO189.out).2.2 | (with_reducible refine Kd.C_alloc ?_ _) | (with_reducible refine Kd.C_drewN ?_ _) | (with_reducible refine Kd.C_drew ?_))); (case side2 => exact (Kd.S_reads' HO189.out).2.1); rintro e w46 ⟨rfl, hb⟩; refine ⟨_, rfl, ?_⟩; have n0_ := Aside0.mk (Kd.S_below (by (with_reducible repeat (first | apply Kd.S_alloc | apply Kd.S_drewN | apply Kd.S_drew)); exact HO173.out) hb); have n1_ := Aside0.mk (Kd.S_below (by (with_reducible repeat (first | apply Kd.S_alloc | apply Kd.S_drewN | apply Kd.S_drew)); exact HO179.out) hb); have n2_ := Aside0.mk (Kd.S_below (by (with_reducible repeat (first | apply Kd.S_alloc | apply Kd.S_drewN | apply Kd.S_drew)); exact HO185.out) hb); have n3_ := Aside0.mk (Kd.S_below (by (with_reducible repeat (first | apply Kd.S_alloc | apply Kd.S_drewN | apply Kd.S_drew)); exact HO189.out) hb); have n4_ := Aside0.mk (below_step (by repeat (first | (with_reducible first | exact HB.out | apply below_alloc | apply pw_below_drewN | apply below_drew1) | exact HB.out)) hb); clear HO173; clear HO179; clear HO185; clear HO189; clear HB; have HO173 := n0_; have HO179 := n1_; have HO185 := n2_; have HO189 := n3_; have HB := n4_; clear n0_ n1_ n2_ n3_ n4_; (try clear hb); (try clear hb2); (try clear hk); (try clear hi)))
                       go_ret
                       exact ⟨by first | rfl | (simp [errW_none, errW_some] <;> rfl) | (simp [*, errW_none, errW_some] <;> rfl), by repeat (first | (with_reducible first | exact HB.out | apply below_alloc | apply pw_below_drewN | apply below_drew1) | exact HB.out)⟩)
              · rw [if_neg c25] at H
                have c25b0 : (t191 == t175) = false := beq_eq_false_iff_ne.mpr c25
                have c25b1 : (t191 != t175) = true := bne_iff_ne.mpr c25
                first
                  | (cases H; done)
                  | (clear H
                     go_enter Try.func10, Try.ntmps10
                     go_wp2_with (first | ((with_reducible refine gate_callee (f := 25) rfl ?_); refine goesL_ (some 22) rfl rfl Try.func25 (by kernel_rfl) rfl #[.slice A2 l2.length c2, .int .i64 1000000] rfl (by (try simp only [List.map_toArray, List.map_cons, List.map_nil]); first | done | rfl | (simp only [List.length_drop, List.length_take]; rfl)) ?_; (with_reducible refine (laws_szIntSS.calls k _ _ l2 1000000 t170 _ ?side1 ?side2 A5.out).mono ?_); (case side1 => repeat (first | exact HR2.out | (with_reducible refine Kd.C_alloc ?_ _) | (with_reducible refine Kd.C_drewN ?_ _) | (with_reducible refine Kd.C_drew ?_))); (case side2 => exact HC2.out); rintro e w' ⟨rfl, ⟨nd, rfl⟩⟩; refine ⟨_, rfl, ?_⟩) | ((with_reducible refine gate_callee (f := 27) rfl ?_); refine goesL_ (some 29) rfl rfl Try.func27 (by kernel_rfl) rfl #[.slice A2 l2.length c2, .bool false] rfl (by (try simp only [List.map_toArray, List.map_cons, List.map_nil]); first | done | rfl | (simp only [List.length_drop, List.length_take]; rfl)) ?_; (with_reducible refine (laws_toIntSS.callsX k _ _ l2 false t171 _ HLENl2.out ?side1 ?side2 A7.out).mono ?_); (case side1 => repeat (first | exact HR2.out | (with_reducible refine Kd.C_alloc ?_ _) | (with_reducible refine Kd.C_drewN ?_ _) | (with_reducible refine Kd.C_drew ?_))); (case side2 => exact HC2.out); rintro e w47 ⟨v172, rfl, ⟨ho0, hx0⟩, hb⟩; refine ⟨_, rfl, ?_⟩; have HXv172 := Aside0.mk (hx0 rfl); clear hx0; have n0_ := Aside0.mk (Kd.S_lower ho0 (below_size (by repeat (first | (with_reducible first | exact HB.out | apply below_alloc | apply pw_below_drewN | apply below_drew1) | exact HB.out)))); have n1_ := Aside0.mk (below_step (by repeat (first | (with_reducible first | exact HB.out | apply below_alloc | apply pw_below_drewN | apply below_drew1) | exact HB.out)) hb); clear HB; have HO173 := n0_; have HB := n1_; clear n0_ n1_; (try clear hb); (try clear hb2); (try clear hk); (try clear hi); (try clear ho0); obtain ⟨Ao48, co48, eo48⟩ := Kd.S_slice HO173.out; subst eo48) | ((with_reducible refine gate_callee (f := 32) rfl ?_); refine goesL_ (some 31) rfl rfl Try.func32 (by kernel_rfl) rfl #[.int .i64 a0, .int .i64 a1, .slice Ao48 t171.length co48, .int .i64 a3] rfl (by (try simp only [List.map_toArray, List.map_cons, List.map_nil]); first | done | rfl | (simp only [List.length_drop, List.length_take]; rfl)) ?_; (with_reducible refine (spec_OpenAfterRounds.calls k a0 a1 _ _ t171 a3 t174 t175 t176 _ ?side1 ?side2 A8.out).mono ?_); (case side1 => repeat (first | exact (Kd.S_reads' HO173.out).2.2 | (with_reducible refine Kd.C_alloc ?_ _) | (with_reducible refine Kd.C_drewN ?_ _) | (with_reducible refine Kd.C_drew ?_))); (case side2 => exact (Kd.S_reads' HO173.out).2.1); rintro e w' ⟨rfl, ⟨nd, rfl⟩⟩; refine ⟨_, rfl, ?_⟩) | ((with_reducible refine gate_callee (f := 27) rfl ?_); refine goesL_ (some 36) rfl rfl Try.func27 (by kernel_rfl) rfl #[.slice A2 l2.length c2, .bool false] rfl (by (try simp only [List.map_toArray, List.map_cons, List.map_nil]); first | done | rfl | (simp only [List.length_drop, List.length_take]; rfl)) ?_; (with_reducible refine (laws_toIntSS.callsX k _ _ l2 false t177 _ HLENl2.out ?side1 ?side2 A9.out).mono ?_); (case side1 => repeat (first | exact (Kd.C_below HR2.out (by repeat (first | (with_reducible first | exact HB.out | apply below_alloc | apply pw_below_drewN | apply below_drew1) | exact HB.out))) | (with_reducible refine Kd.C_alloc ?_ _) | (with_reducible refine Kd.C_drewN ?_ _) | (with_reducible refine Kd.C_drew ?_))); (case side2 => exact HC2.out); rintro e w49 ⟨v178, rfl, ⟨ho0, hx0⟩, hb⟩; refine ⟨_, rfl, ?_⟩; have HXv178 := Aside0.mk (hx0 rfl); clear hx0; have m_ := Aside0.mk (Sp.below (by (with_reducible repeat (first | apply Sp.alloc | apply Sp.drewN | apply Sp.drew)); exact HXv172.out) hb); clear HXv172; have HXv172 := m_; clear m_; have n0_ := Aside0.mk (Kd.S_elder' (by (with_reducible repeat (first | apply Kd.S_alloc | apply Kd.S_drewN | apply Kd.S_drew)); exact HO173.out) (Kd.S_base ho0) hb); have n1_ := Aside0.mk (Kd.S_lower (Kd.S_new' ho0 (Kd.S_lt (by (with_reducible repeat (first | apply Kd.S_alloc | apply Kd.S_drewN | apply Kd.S_drew)); exact HO173.out))) (below_size (by repeat (first | (with_reducible first | exact HB.out | apply below_alloc | apply pw_below_drewN | apply below_drew1) | exact HB.out)))); have n2_ := Aside0.mk (below_step (by repeat (first | (with_reducible first | exact HB.out | apply below_alloc | apply pw_below_drewN | apply below_drew1) | exact HB.out)) hb); clear HO173; clear HB; have HO173 := n0_; have HO179 := n1_; have HB := n2_; clear n0_ n1_ n2_; (try clear hb); (try clear hb2); (try clear hk); (try clear hi); (try clear ho0); obtain ⟨Ao50, co50, eo50⟩ := Kd.S_slice HO179.out; subst eo50) | ((with_reducible refine gate_callee (f := 33) rfl ?_); refine goesL_ (some 42) rfl rfl Try.func33 (by kernel_rfl) rfl #[.int .i64 a0, .int .i64 a1, .slice Ao50 t177.length co50, .int .i64 a3] rfl (by (try simp only [List.map_toArray, List.map_cons, List.map_nil]); first | done | rfl | (simp only [List.length_drop, List.length_take]; rfl)) ?_; (with_reducible refine (impl_OpenAfterRounds.calls k a0 a1 _ _ t177 a3 t180 t181 t182 _ ?side1 ?side2 A10.out).mono ?_); (case side1 => repeat (first | exact (Kd.S_reads' HO179.out).2.2 | (with_reducible refine Kd.C_alloc ?_ _) | (with_reducible refine Kd.C_drewN ?_ _) | (with_reducible refine Kd.C_drew ?_))); (case side2 => exact (Kd.S_reads' HO179.out).2.1); rintro e w51 ⟨rfl, hb⟩; refine ⟨_, rfl, ?_⟩; have m_ := Aside0.mk (Sp.below (by (with_reducible repeat (first | apply Sp.alloc | apply Sp.drewN | apply Sp.drew)); exact HXv172.out) hb); clear HXv172; have HXv172 := m_; clear m_; have m_ := Aside0.mk (Sp.below (by (with_reducible repeat (first | apply Sp.alloc | apply Sp.drewN | apply Sp.drew)); exact HXv178.out) hb); clear HXv178; have HXv178 := m_; clear m_; have n0_ := Aside0.mk (Kd.S_below (by (with_reducible repeat (first | apply Kd.S_alloc | apply Kd.S_drewN | apply Kd.S_drew)); exact HO173.out) hb); have n1_ := Aside0.mk (Kd.S_below (by (with_reducible repeat (first | apply Kd.S_alloc | apply Kd.S_drewN | apply Kd.S_drew)); exact HO179.out) hb); have n2_ := Aside0.mk (below_step (by repeat (first | (with_reducible first | exact HB.out | apply below_alloc | apply pw_below_drewN | apply below_drew1) | exact HB.out)) hb); clear HO173; clear HO179; clear HB; have HO173 := n0_; have HO179 := n1_; have HB := n2_; clear n0_ n1_ n2_; (try clear hb); (try clear hb2); (try clear hk); (try clear hi)) | ((with_reducible refine gate_callee (f := 27) rfl ?_); refine goesL_ (some 61) rfl rfl Try.func27 (by kernel_rfl) rfl #[.slice A2 l2.length c2, .bool false] rfl (by (try simp only [List.map_toArray, List.map_cons, List.map_nil]); first | done | rfl | (simp only [List.length_drop, List.length_take]; rfl)) ?_; (with_reducible refine (laws_toIntSS.callsX k _ _ l2 false t183 _ HLENl2.out ?side1 ?side2 A19.out).mono ?_); (case side1 => repeat (first | exact (Kd.C_below HR2.out HB.out) | (with_reducible refine Kd.C_alloc ?_ _) | (with_reducible refine Kd.C_drewN ?_ _) | (with_reducible refine Kd.C_drew ?_))); (case side2 => exact HC2.out); rintro e w52 ⟨v184, rfl, ⟨ho0, hx0⟩, hb⟩; refine ⟨_, rfl, ?_⟩; have HXv184 := Aside0.mk (hx0 rfl); clear hx0; have m_ := Aside0.mk (Sp.below (by (with_reducible repeat (first | apply Sp.alloc | apply Sp.drewN | apply Sp.drew)); exact HXv172.out) hb); clear HXv172; have HXv172 := m_; clear m_; have m_ := Aside0.mk (Sp.below (by (with_reducible repeat (first | apply Sp.alloc | apply Sp.drewN | apply Sp.drew)); exact HXv178.out) hb); clear HXv178; have HXv178 := m_; clear m_; have n0_ := Aside0.mk (Kd.S_elder' (by (with_reducible repeat (first | apply Kd.S_alloc | apply Kd.S_drewN | apply Kd.S_drew)); exact HO173.out) (Kd.S_base ho0) hb); have n1_ := Aside0.mk (Kd.S_elder' (by (with_reducible repeat (first | apply Kd.S_alloc | apply Kd.S_drewN | apply Kd.S_drew)); exact HO179.out) (Kd.S_base ho0) hb); have n2_ := Aside0.mk (Kd.S_lower (Kd.S_new' (Kd.S_new' ho0 (Kd.S_lt (by (with_reducible repeat (first | apply Kd.S_alloc | apply Kd.S_drewN | apply Kd.S_drew)); exact HO173.out))) (Kd.S_lt (by (with_reducible repeat (first | apply Kd.S_alloc | apply Kd.S_drewN | apply Kd.S_drew)); exact HO179.out))) (below_size (by repeat (first | (with_reducible first | exact HB.out | apply below_alloc | apply pw_below_drewN | apply below_drew1) | exact HB.out)))); have n3_ := Aside0.mk (below_step (by repeat (first | (with_reducible first | exact HB.out | apply below_alloc | apply pw_below_drewN | apply below_drew1) | exact HB.out)) hb); clear HO173; clear HO179; clear HB; have HO173 := n0_; have HO179 := n1_; have HO185 := n2_; have HB := n3_; clear n0_ n1_ n2_ n3_; (try clear hb); (try clear hb2); (try clear hk); (try clear hi); (try clear ho0); obtain ⟨Ao53, co53, eo53⟩ := Kd.S_slice HO185.out; subst eo53) | ((with_reducible refine gate_callee (f := 29) rfl ?_); refine goesL_ (some 62) rfl rfl Try.func29 (by kernel_rfl) rfl #[.slice Ao50 t177.length co50, .slice Ao53 t183.length co53] rfl (by (try simp only [List.map_toArray, List.map_cons, List.map_nil]); first | done | rfl | (simp only [List.length_drop, List.length_take]; rfl)) ?_; (with_reducible refine (laws_intactIntSS.callsX _ _ _ _ _ _ l2 _ HLENl2.out (laws_toIntSS.len HLENl2.out A9.out) (laws_toIntSS.len HLENl2.out A19.out) ?side1 ?side2).mono ?_); (case side1 => exact (by (with_reducible repeat (first | apply Sp.alloc | apply Sp.drewN | apply Sp.drew)); exact HXv178.out)); (case side2 => exact (by (with_reducible repeat (first | apply Sp.alloc | apply Sp.drewN | apply Sp.drew)); exact HXv184.out)); rintro e w' ⟨rfl, ⟨nd, rfl⟩⟩; refine ⟨_, rfl, ?_⟩) | ((with_reducible refine gate_callee (f := 27) rfl ?_); refine goesL_ (some 68) rfl rfl Try.func27 (by kernel_rfl) rfl #[.slice A2 l2.length c2, .bool true] rfl (by (try simp only [List.map_toArray, List.map_cons, List.map_nil]); first | done | rfl | (simp only [List.length_drop, List.length_take]; rfl)) ?_; (with_reducible refine (laws_toIntSS.callsX k _ _ l2 true t187 _ HLENl2.out ?side1 ?side2 A22.out).mono ?_); (case side1 => repeat (first | exact (Kd.C_below HR2.out (by repeat (first | (with_reducible first | exact HB.out | apply below_alloc | apply pw_below_drewN | apply below_drew1) | exact HB.out))) | (with_reducible refine Kd.C_alloc ?_ _) | (with_reducible refine Kd.C_drewN ?_ _) | (with_reducible refine Kd.C_drew ?_))); (case side2 => exact HC2.out); rintro e w54 ⟨v188, rfl, ⟨ho0, hx0⟩, hb⟩; refine ⟨_, rfl, ?_⟩; clear hx0; have n0_ := Aside0.mk (Kd.S_elder' (by (with_reducible repeat (first | apply Kd.S_alloc | apply Kd.S_drewN | apply Kd.S_drew)); exact HO173.out) (Kd.S_base ho0) hb); have n1_ := Aside0.mk (Kd.S_elder' (by (with_reducible repeat (first | apply Kd.S_alloc | apply Kd.S_drewN | apply Kd.S_drew)); exact HO179.out) (Kd.S_base ho0) hb); have n2_ := Aside0.mk (Kd.S_elder' (by (with_reducible repeat (first | apply Kd.S_alloc | apply Kd.S_drewN | apply Kd.S_drew)); exact HO185.out) (Kd.S_base ho0) hb); have n3_ := Aside0.mk (Kd.S_lower (Kd.S_new' (Kd.S_new' (Kd.S_new' ho0 (Kd.S_lt (by (with_reducible repeat (first | apply Kd.S_alloc | apply Kd.S_drewN | apply Kd.S_drew)); exact HO173.out))) (Kd.S_lt (by (with_reducible repeat (first | apply Kd.S_alloc | apply Kd.S_drewN | apply Kd.S_drew)); exact HO179.out))) (Kd.S_lt (by (with_reducible repeat (first | apply Kd.S_alloc | apply Kd.S_drewN | apply Kd.S_drew)); exact HO185.out))) (below_size (by repeat (first | (with_reducible first | exact HB.out | apply below_alloc | apply pw_below_drewN | apply below_drew1) | exact HB.out)))); have n4_ := Aside0.mk (below_step (by repeat (first | (with_reducible first | exact HB.out | apply below_alloc | apply pw_below_drewN | apply below_drew1) | exact HB.out)) hb); clear HO173; clear HO179; clear HO185; clear HB; have HO173 := n0_; have HO179 := n1_; have HO185 := n2_; have HO189 := n3_; have HB := n4_; clear n0_ n1_ n2_ n3_ n4_; (try clear hb); (try clear hb2); (try clear hk); (try clear hi); (try clear ho0); obtain ⟨Ao55, co55, eo55⟩ := Kd.S_slice HO189.out; subst eo55) | ((with_reducible refine gate_callee (f := 33) rfl ?_); refine goesL_ (some 70) rfl rfl Try.func33 (by kernel_rfl) rfl #[.int .i64 a0, .int .i64 a1, .slice Ao55 t187.length co55, .int .i64 a3] rfl (by (try simp only [List.map_toArray, List.map_cons, List.map_nil]); first | done | rfl | (simp only [List.length_drop, List.length_take]; rfl)) ?_; (with_reducible refine (impl_OpenAfterRounds.calls k a0 a1 _ _ t187 a3 t190 t191 t192 _ ?side1 ?side2 A23.out).mono ?_); (case side1 => repeat (first | exact (Kd.S_reads' HO189.out).2.2 | (with_reducible refine Kd.C_alloc ?_ _) | (with_reducible refine Kd.C_drewN ?_ _) | (with_reducible refine Kd.C_drew ?_))); (case side2 => exact (Kd.S_reads' HO189.out).2.1); rintro e w56 ⟨rfl, hb⟩; refine ⟨_, rfl, ?_⟩; have n0_ := Aside0.mk (Kd.S_below (by (with_reducible repeat (first | apply Kd.S_alloc | apply Kd.S_drewN | apply Kd.S_drew)); exact HO173.out) hb); have n1_ := Aside0.mk (Kd.S_below (by (with_reducible repeat (first | apply Kd.S_alloc | apply Kd.S_drewN | apply Kd.S_drew)); exact HO179.out) hb); have n2_ := Aside0.mk (Kd.S_below (by (with_reducible repeat (first | apply Kd.S_alloc | apply Kd.S_drewN | apply Kd.S_drew)); exact HO185.out) hb); have n3_ := Aside0.mk (Kd.S_below (by (with_reducible repeat (first | apply Kd.S_alloc | apply Kd.S_drewN | apply Kd.S_drew)); exact HO189.out) hb); have n4_ := Aside0.mk (below_step (by repeat (first | (with_reducible first | exact HB.out | apply below_alloc | apply pw_below_drewN | apply below_drew1) | exact HB.out)) hb); clear HO173; clear HO179; clear HO185; clear HO189; clear HB; have HO173 := n0_; have HO179 := n1_; have HO185 := n2_; have HO189 := n3_; have HB := n4_; clear n0_ n1_ n2_ n3_ n4_; (try clear hb); (try clear hb2); (try clear hk); (try clear hi)))
                     go_ret
                     exact ⟨by first | rfl | (simp [errW_none, errW_some] <;> rfl) | (simp [*, errW_none, errW_some] <;> rfl), by repeat (first | (with_reducible first | exact HB.out | apply below_alloc | apply pw_below_drewN | apply below_drew1) | exact HB.out)⟩)
            · rw [if_neg c24] at H
              have c24b0 : (t190 == t174) = false := beq_eq_false_iff_ne.mpr c24
              have c24b1 : (t190 != t174) = true := bne_iff_ne.mpr c24
              cases H
          · replace c21 := Bool.eq_false_iff.mpr c21
            subst c21
            have H1 : (some false) = some true := by rw [if_neg (show ¬ (false = true) by decide)] at H; exact H
            clear H
            have H := H1
            clear H1
            cases H
      · rw [if_neg c12] at H
        have c12b0 : (t181 == t175) = false := beq_eq_false_iff_ne.mpr c12
        have c12b1 : (t181 != t175) = true := bne_iff_ne.mpr c12
        first
          | (cases H; done)
          | (clear H
             go_enter Try.func10, Try.ntmps10
             go_wp2_with (first | ((with_reducible refine gate_callee (f := 25) rfl ?_); refine goesL_ (some 22) rfl rfl Try.func25 (by kernel_rfl) rfl #[.slice A2 l2.length c2, .int .i64 1000000] rfl (by (try simp only [List.map_toArray, List.map_cons, List.map_nil]); first | done | rfl | (simp only [List.length_drop, List.length_take]; rfl)) ?_; (with_reducible refine (laws_szIntSS.calls k _ _ l2 1000000 t170 _ ?side1 ?side2 A5.out).mono ?_); (case side1 => repeat (first | exact HR2.out | (with_reducible refine Kd.C_alloc ?_ _) | (with_reducible refine Kd.C_drewN ?_ _) | (with_reducible refine Kd.C_drew ?_))); (case side2 => exact HC2.out); rintro e w' ⟨rfl, ⟨nd, rfl⟩⟩; refine ⟨_, rfl, ?_⟩) | ((with_reducible refine gate_callee (f := 27) rfl ?_); refine goesL_ (some 29) rfl rfl Try.func27 (by kernel_rfl) rfl #[.slice A2 l2.length c2, .bool false] rfl (by (try simp only [List.map_toArray, List.map_cons, List.map_nil]); first | done | rfl | (simp only [List.length_drop, List.length_take]; rfl)) ?_; (with_reducible refine (laws_toIntSS.callsX k _ _ l2 false t171 _ HLENl2.out ?side1 ?side2 A7.out).mono ?_); (case side1 => repeat (first | exact HR2.out | (with_reducible refine Kd.C_alloc ?_ _) | (with_reducible refine Kd.C_drewN ?_ _) | (with_reducible refine Kd.C_drew ?_))); (case side2 => exact HC2.out); rintro e w74 ⟨v172, rfl, ⟨ho0, hx0⟩, hb⟩; refine ⟨_, rfl, ?_⟩; have HXv172 := Aside0.mk (hx0 rfl); clear hx0; have n0_ := Aside0.mk (Kd.S_lower ho0 (below_size (by repeat (first | (with_reducible first | exact HB.out | apply below_alloc | apply pw_below_drewN | apply below_drew1) | exact HB.out)))); have n1_ := Aside0.mk (below_step (by repeat (first | (with_reducible first | exact HB.out | apply below_alloc | apply pw_below_drewN | apply below_drew1) | exact HB.out)) hb); clear HB; have HO173 := n0_; have HB := n1_; clear n0_ n1_; (try clear hb); (try clear hb2); (try clear hk); (try clear hi); (try clear ho0); obtain ⟨Ao75, co75, eo75⟩ := Kd.S_slice HO173.out; subst eo75) | ((with_reducible refine gate_callee (f := 32) rfl ?_); refine goesL_ (some 31) rfl rfl Try.func32 (by kernel_rfl) rfl #[.int .i64 a0, .int .i64 a1, .slice Ao75 t171.length co75, .int .i64 a3] rfl (by (try simp only [List.map_toArray, List.map_cons, List.map_nil]); first | done | rfl | (simp only [List.length_drop, List.length_take]; rfl)) ?_; (with_reducible refine (spec_OpenAfterRounds.calls k a0 a1 _ _ t171 a3 t174 t175 t176 _ ?side1 ?side2 A8.out).mono ?_); (case side1 => repeat (first | exact (Kd.S_reads' HO173.out).2.2 | (with_reducible refine Kd.C_alloc ?_ _) | (with_reducible refine Kd.C_drewN ?_ _) | (with_reducible refine Kd.C_drew ?_))); (case side2 => exact (Kd.S_reads' HO173.out).2.1); rintro e w' ⟨rfl, ⟨nd, rfl⟩⟩; refine ⟨_, rfl, ?_⟩) | ((with_reducible refine gate_callee (f := 27) rfl ?_); refine goesL_ (some 36) rfl rfl Try.func27 (by kernel_rfl) rfl #[.slice A2 l2.length c2, .bool false] rfl (by (try simp only [List.map_toArray, List.map_cons, List.map_nil]); first | done | rfl | (simp only [List.length_drop, List.length_take]; rfl)) ?_; (with_reducible refine (laws_toIntSS.callsX k _ _ l2 false t177 _ HLENl2.out ?side1 ?side2 A9.out).mono ?_); (case side1 => repeat (first | exact (Kd.C_below HR2.out (by repeat (first | (with_reducible first | exact HB.out | apply below_alloc | apply pw_below_drewN | apply below_drew1) | exact HB.out))) | (with_reducible refine Kd.C_alloc ?_ _) | (with_reducible refine Kd.C_drewN ?_ _) | (with_reducible refine Kd.C_drew ?_))); (case side2 => exact HC2.out); rintro e w76 ⟨v178, rfl, ⟨ho0, hx0⟩, hb⟩; refine ⟨_, rfl, ?_⟩; have HXv178 := Aside0.mk (hx0 rfl); clear hx0; have m_ := Aside0.mk (Sp.below (by (with_reducible repeat (first | apply Sp.alloc | apply Sp.drewN | apply Sp.drew)); exact HXv172.out) hb); clear HXv172; have HXv172 := m_; clear m_; have n0_ := Aside0.mk (Kd.S_elder' (by (with_reducible repeat (first | apply Kd.S_alloc | apply Kd.S_drewN | apply Kd.S_drew)); exact HO173.out) (Kd.S_base ho0) hb); have n1_ := Aside0.mk (Kd.S_lower (Kd.S_new' ho0 (Kd.S_lt (by (with_reducible repeat (first | apply Kd.S_alloc | apply Kd.S_drewN | apply Kd.S_drew)); exact HO173.out))) (below_size (by repeat (first | (with_reducible first | exact HB.out | apply below_alloc | apply pw_below_drewN | apply below_drew1) | exact HB.out)))); have n2_ := Aside0.mk (below_step (by repeat (first | (with_reducible first | exact HB.out | apply below_alloc | apply pw_below_drewN | apply below_drew1) | exact HB.out)) hb); clear HO173; clear HB; have HO173 := n0_; have HO179 := n1_; have HB := n2_; clear n0_ n1_ n2_; (try clear hb); (try clear hb2); (try clear hk); (try clear hi); (try clear ho0); obtain ⟨Ao77, co77, eo77⟩ := Kd.S_slice HO179.out; subst eo77) | ((with_reducible refine gate_callee (f := 33) rfl ?_); refine goesL_ (some 42) rfl rfl Try.func33 (by kernel_rfl) rfl #[.int .i64 a0, .int .i64 a1, .slice Ao77 t177.length co77, .int .i64 a3] rfl (by (try simp only [List.map_toArray, List.map_cons, List.map_nil]); first | done | rfl | (simp only [List.length_drop, List.length_take]; rfl)) ?_; (with_reducible refine (impl_OpenAfterRounds.calls k a0 a1 _ _ t177 a3 t180 t181 t182 _ ?side1 ?side2 A10.out).mono ?_); (case side1 => repeat (first | exact (Kd.S_reads' HO179.out).2.2 | (with_reducible refine Kd.C_alloc ?_ _) | (with_reducible refine Kd.C_drewN ?_ _) | (with_reducible refine Kd.C_drew ?_))); (case side2 => exact (Kd.S_reads' HO179.out).2.1); rintro e w78 ⟨rfl, hb⟩; refine ⟨_, rfl, ?_⟩; have m_ := Aside0.mk (Sp.below (by (with_reducible repeat (first | apply Sp.alloc | apply Sp.drewN | apply Sp.drew)); exact HXv172.out) hb); clear HXv172; have HXv172 := m_; clear m_; have m_ := Aside0.mk (Sp.below (by (with_reducible repeat (first | apply Sp.alloc | apply Sp.drewN | apply Sp.drew)); exact HXv178.out) hb); clear HXv178; have HXv178 := m_; clear m_; have n0_ := Aside0.mk (Kd.S_below (by (with_reducible repeat (first | apply Kd.S_alloc | apply Kd.S_drewN | apply Kd.S_drew)); exact HO173.out) hb); have n1_ := Aside0.mk (Kd.S_below (by (with_reducible repeat (first | apply Kd.S_alloc | apply Kd.S_drewN | apply Kd.S_drew)); exact HO179.out) hb); have n2_ := Aside0.mk (below_step (by repeat (first | (with_reducible first | exact HB.out | apply below_alloc | apply pw_below_drewN | apply below_drew1) | exact HB.out)) hb); clear HO173; clear HO179; clear HB; have HO173 := n0_; have HO179 := n1_; have HB := n2_; clear n0_ n1_ n2_; (try clear hb); (try clear hb2); (try clear hk); (try clear hi)))
             go_ret
             exact ⟨by first | rfl | (simp [errW_none, errW_some] <;> rfl) | (simp [*, errW_none, errW_some] <;> rfl), by repeat (first | (with_reducible first | exact HB.out | apply below_alloc | apply pw_below_drewN | apply below_drew1) | exact HB.out)⟩)
    · rw [if_neg c11] at H
      have c11b0 : (t180 == t174) = false := beq_eq_false_iff_ne.mpr c11
      have c11b1 : (t180 != t174) = true := bne_iff_ne.mpr c11
      cases H
def laws_FnExactOpenAfterRounds.Pure : Prop := ∀ (a0 a1 : Int) (l2 : List (List Int)) (a3 : Int), (l2.length ≤ 9223372036854775807 ∧ ∀ x ∈ l2, x.length ≤ 9223372036854775807) → ∃ k, laws_FnExactOpenAfterRounds.f k a0 a1 l2 a3 = some true

end Go.Proofs.Ytnolocmcjcjjcaa.QFnExactOpenAfterRounds
