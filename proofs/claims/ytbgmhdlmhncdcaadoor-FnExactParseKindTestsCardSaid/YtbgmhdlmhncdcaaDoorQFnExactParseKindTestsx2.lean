/- A text written by a program of this session for the law FnExactParseKindTests: what each Go function that it reaches computes, and the proof that it does; no conditions beyond those stated. -/
import Derived.Test.YtbgmhdlmhncdcaaDoorQFnExactParseKindTestsx0
import Derived.Test.YtbgmhdlmhncdcaaDoorQFnExactParseKindTestsx1
namespace Go.Proofs.YtbgmhdlmhncdcaaDoor.QFnExactParseKindTests
open Go.RowKit Go.Proofs.YtbgmhdlmhncdcaaDoorW.PrintWords Go.Proofs.YtbgmhdlmhncdcaaDoorW.PrintLast Go.Proofs.YtbgmhdlmhncdcaaDoorW.PrintMore
attribute [local go_sem] max2_int min2_int max_two min_two max_three min_three max_four min_four   -- for this text's walks alone
set_option linter.unusedVariables false
set_option linter.unusedSimpArgs false

/-! ### spec_kiText: function 67 -/
def spec_kiText.l0 : Nat → ByteArray → List (S81) → Int → Int → Option (ByteArray)
  | 0, _, _, _, _ => none
  | k + 1, x3, x8, x9, x10 => if x10 < x9 then (if 0 ≤ x10 then (if x10 < (x8.length : Int) then (if (rd_T81 x8 x10).f0 = true then (if (rd_T81 x8 x10).f2 = true then ((spec_l1Num.f k ((rd_T81 x8 x10).f1)).bind fun t115 => (if 1 + t115.size ≤ 9223372036854775807 then (if ((⟨#[115]⟩ : ByteArray) ++ t115).size + 1 ≤ 9223372036854775807 then (if x3.size + (((⟨#[115]⟩ : ByteArray) ++ t115) ++ (⟨#[33]⟩ : ByteArray)).size ≤ 9223372036854775807 then (spec_kiText.l0 k (x3 ++ (((⟨#[115]⟩ : ByteArray) ++ t115) ++ (⟨#[33]⟩ : ByteArray))) x8 x9 (wrap64 (x10 + 1))) else (none)) else (none)) else (none))) else ((spec_l1Num.f k ((rd_T81 x8 x10).f1)).bind fun t116 => (if 1 + t116.size ≤ 9223372036854775807 then (if ((⟨#[115]⟩ : ByteArray) ++ t116).size + 1 ≤ 9223372036854775807 then (if x3.size + (((⟨#[115]⟩ : ByteArray) ++ t116) ++ (⟨#[46]⟩ : ByteArray)).size ≤ 9223372036854775807 then (spec_kiText.l0 k (x3 ++ (((⟨#[115]⟩ : ByteArray) ++ t116) ++ (⟨#[46]⟩ : ByteArray))) x8 x9 (wrap64 (x10 + 1))) else (none)) else (none)) else (none)))) else (if (rd_T81 x8 x10).f2 = true then ((spec_l1Num.f k ((rd_T81 x8 x10).f1)).bind fun t117 => (if 1 + t117.size ≤ 9223372036854775807 then (if ((⟨#[119]⟩ : ByteArray) ++ t117).size + 1 ≤ 9223372036854775807 then (if x3.size + (((⟨#[119]⟩ : ByteArray) ++ t117) ++ (⟨#[33]⟩ : ByteArray)).size ≤ 9223372036854775807 then (spec_kiText.l0 k (x3 ++ (((⟨#[119]⟩ : ByteArray) ++ t117) ++ (⟨#[33]⟩ : ByteArray))) x8 x9 (wrap64 (x10 + 1))) else (none)) else (none)) else (none))) else ((spec_l1Num.f k ((rd_T81 x8 x10).f1)).bind fun t118 => (if 1 + t118.size ≤ 9223372036854775807 then (if ((⟨#[119]⟩ : ByteArray) ++ t118).size + 1 ≤ 9223372036854775807 then (if x3.size + (((⟨#[119]⟩ : ByteArray) ++ t118) ++ (⟨#[46]⟩ : ByteArray)).size ≤ 9223372036854775807 then (spec_kiText.l0 k (x3 ++ (((⟨#[119]⟩ : ByteArray) ++ t118) ++ (⟨#[46]⟩ : ByteArray))) x8 x9 (wrap64 (x10 + 1))) else (none)) else (none)) else (none))))) else (none)) else (none)) else (some x3)
def spec_kiText.f (k : Nat) (l0 : List (S81)) : Option (ByteArray) := spec_kiText.l0 k (⟨#[]⟩ : ByteArray) l0 (l0.length : Int) 0
theorem spec_kiText.mono_l : ∀ k, (∀ y0 y1 y2 y3, LeO (spec_kiText.l0 k y0 y1 y2 y3) (spec_kiText.l0 (k + 1) y0 y1 y2 y3))
  | 0 => fun _ _ _ _ r h => by simp [spec_kiText.l0] at h
  | k + 1 => by
    have ih0 := spec_kiText.mono_l k
    · intro y0 y1 y2 y3
      unfold spec_kiText.l0
      repeat' first
      | (with_reducible exact ih0 _ _ _ _)
      | (with_reducible exact spec_l1Num.mono _ _)
      | (with_reducible exact LeO.refl _)
      | (with_reducible exact LeO.none _)
      | (with_reducible refine LeO.ite ?_ ?_)
      | (with_reducible refine LeO.bind ?_ (fun _ => ?_))
      | exact ih0 _ _ _ _
      | exact spec_l1Num.mono _ _
      | exact LeO.none _
      | refine LeO.ite ?_ ?_
      | refine LeO.bind ?_ (fun _ => ?_)
theorem spec_kiText.mono : ∀ a0 k, LeO (spec_kiText.f k a0) (spec_kiText.f (k + 1) a0) := by
  intro a0 k
  have ih0 := spec_kiText.mono_l k
  unfold spec_kiText.f
  repeat' first
      | (with_reducible exact ih0 _ _ _ _)
      | (with_reducible exact spec_l1Num.mono _ _)
      | (with_reducible exact LeO.refl _)
      | (with_reducible exact LeO.none _)
      | (with_reducible refine LeO.ite ?_ ?_)
      | (with_reducible refine LeO.bind ?_ (fun _ => ?_))
      | exact ih0 _ _ _ _
      | exact spec_l1Num.mono _ _
      | exact LeO.none _
      | refine LeO.ite ?_ ?_
      | refine LeO.bind ?_ (fun _ => ?_)
set_option maxHeartbeats 8000000 in
set_option maxRecDepth 100000 in
theorem spec_kiText.calls (k : Nat) (A0 : Option Addr) (c0 : Nat) (l0 : List (S81)) (r : ByteArray) (w : World) (hr0 : Kd.C k81 w A0 l0.length l0) (hc0 : l0.length ≤ c0) (h : spec_kiText.f k l0 = some r) :
    Calls Tryd.prog 67 #[.slice A0 l0.length c0] w fun e w' => e = .returned (.string r) ∧ Below w.heap.size w w' := by
  have hu81 := Tryd.underlying81
  have HR0 := Aside0.mk hr0
  have HC0 := Aside0.mk hc0
  clear hr0 hc0
  have HB := Aside0.mk (Below.refl w.heap.size w)
  have H : (spec_kiText.l0 k (⟨#[]⟩ : ByteArray) l0 (l0.length : Int) 0) = some r := h
  clear h
  have H' := Aside0.mk H
  clear H
  go_enter Tryd.func67, Tryd.ntmps67
  go_wp2
  go_loopg [3, 10] k (fun kq v3 v10 w' => ∃ (x3_1 : ByteArray) (x10_1 : Int), v3 = .string x3_1 ∧ v10 = .int .i64 x10_1 ∧ Aside0 (spec_kiText.l0 kq x3_1 l0 (l0.length : Int) x10_1 = some r) ∧ Aside0 (kq ≤ k) ∧ Aside0 (Below w.heap.size w w'))
  case atStart => exact ⟨((⟨#[]⟩ : ByteArray)), (0), (by first | rfl | (simp; done) | (simp [*]; done)), (by first | rfl | (simp; done) | (simp [*]; done)), H', ⟨Nat.le_refl _⟩, ⟨by repeat (first | (with_reducible first | exact HB.out | apply below_alloc | apply pw_below_drewN | apply below_drew1) | exact HB.out)⟩⟩
  case round =>
    clear H'
    obtain ⟨x3_1, x10_1, rfl, rfl, HA, HK1, HB⟩ := hrel
    cases gk with
    | zero => exact absurd HA.out (by simp [spec_kiText.l0])
    | succ k1 =>
      have H := HA.out
      clear HA
      simp only [spec_kiText.l0] at H
      by_cases c2 : x10_1 < (l0.length : Int)
      · rw [if_pos c2] at H
        have c2b0 : decide (x10_1 < (l0.length : Int)) = true := decide_eq_true c2
        clear c2
        by_cases c3 : 0 ≤ x10_1
        · rw [if_pos c3] at H
          have c3b0 : decide (0 ≤ x10_1) = true := decide_eq_true c3
          clear c3
          by_cases c4 : x10_1 < (l0.length : Int)
          · rw [if_pos c4] at H
            have c4b0 : decide (x10_1 < (l0.length : Int)) = true := decide_eq_true c4
            clear c4
            obtain ⟨bq5, hbq5⟩ : ∃ b_ : Bool, b_ = ((rd_T81 l0 x10_1).f0) := ⟨_, rfl⟩
            replace H : (if bq5 = true then (if (rd_T81 l0 x10_1).f2 = true then ((spec_l1Num.f k1 ((rd_T81 l0 x10_1).f1)).bind fun t115 => (if 1 + t115.size ≤ 9223372036854775807 then (if ((⟨#[115]⟩ : ByteArray) ++ t115).size + 1 ≤ 9223372036854775807 then (if x3_1.size + (((⟨#[115]⟩ : ByteArray) ++ t115) ++ (⟨#[33]⟩ : ByteArray)).size ≤ 9223372036854775807 then (spec_kiText.l0 k1 (x3_1 ++ (((⟨#[115]⟩ : ByteArray) ++ t115) ++ (⟨#[33]⟩ : ByteArray))) l0 (l0.length : Int) (wrap64 (x10_1 + 1))) else (none)) else (none)) else (none))) else ((spec_l1Num.f k1 ((rd_T81 l0 x10_1).f1)).bind fun t116 => (if 1 + t116.size ≤ 9223372036854775807 then (if ((⟨#[115]⟩ : ByteArray) ++ t116).size + 1 ≤ 9223372036854775807 then (if x3_1.size + (((⟨#[115]⟩ : ByteArray) ++ t116) ++ (⟨#[46]⟩ : ByteArray)).size ≤ 9223372036854775807 then (spec_kiText.l0 k1 (x3_1 ++ (((⟨#[115]⟩ : ByteArray) ++ t116) ++ (⟨#[46]⟩ : ByteArray))) l0 (l0.length : Int) (wrap64 (x10_1 + 1))) else (none)) else (none)) else (none)))) else (if (rd_T81 l0 x10_1).f2 = true then ((spec_l1Num.f k1 ((rd_T81 l0 x10_1).f1)).bind fun t117 => (if 1 + t117.size ≤ 9223372036854775807 then (if ((⟨#[119]⟩ : ByteArray) ++ t117).size + 1 ≤ 9223372036854775807 then (if x3_1.size + (((⟨#[119]⟩ : ByteArray) ++ t117) ++ (⟨#[33]⟩ : ByteArray)).size ≤ 9223372036854775807 then (spec_kiText.l0 k1 (x3_1 ++ (((⟨#[119]⟩ : ByteArray) ++ t117) ++ (⟨#[33]⟩ : ByteArray))) l0 (l0.length : Int) (wrap64 (x10_1 + 1))) else (none)) else (none)) else (none))) else ((spec_l1Num.f k1 ((rd_T81 l0 x10_1).f1)).bind fun t118 => (if 1 + t118.size ≤ 9223372036854775807 then (if ((⟨#[119]⟩ : ByteArray) ++ t118).size + 1 ≤ 9223372036854775807 then (if x3_1.size + (((⟨#[119]⟩ : ByteArray) ++ t118) ++ (⟨#[46]⟩ : ByteArray)).size ≤ 9223372036854775807 then (spec_kiText.l0 k1 (x3_1 ++ (((⟨#[119]⟩ : ByteArray) ++ t118) ++ (⟨#[46]⟩ : ByteArray))) l0 (l0.length : Int) (wrap64 (x10_1 + 1))) else (none)) else (none)) else (none))))) = some r := by rw [← hbq5] at H; exact H
            have Nbq5 := Aside0.mk hbq5
            clear hbq5
            by_cases c6 : bq5 = true
            · subst c6
              have H1 : (if (rd_T81 l0 x10_1).f2 = true then ((spec_l1Num.f k1 ((rd_T81 l0 x10_1).f1)).bind fun t115 => (if 1 + t115.size ≤ 9223372036854775807 then (if ((⟨#[115]⟩ : ByteArray) ++ t115).size + 1 ≤ 9223372036854775807 then (if x3_1.size + (((⟨#[115]⟩ : ByteArray) ++ t115) ++ (⟨#[33]⟩ : ByteArray)).size ≤ 9223372036854775807 then (spec_kiText.l0 k1 (x3_1 ++ (((⟨#[115]⟩ : ByteArray) ++ t115) ++ (⟨#[33]⟩ : ByteArray))) l0 (l0.length : Int) (wrap64 (x10_1 + 1))) else (none)) else (none)) else (none))) else ((spec_l1Num.f k1 ((rd_T81 l0 x10_1).f1)).bind fun t116 => (if 1 + t116.size ≤ 9223372036854775807 then (if ((⟨#[115]⟩ : ByteArray) ++ t116).size + 1 ≤ 9223372036854775807 then (if x3_1.size + (((⟨#[115]⟩ : ByteArray) ++ t116) ++ (⟨#[46]⟩ : ByteArray)).size ≤ 9223372036854775807 then (spec_kiText.l0 k1 (x3_1 ++ (((⟨#[115]⟩ : ByteArray) ++ t116) ++ (⟨#[46]⟩ : ByteArray))) l0 (l0.length : Int) (wrap64 (x10_1 + 1))) else (none)) else (none)) else (none)))) = some r := by rw [if_pos rfl] at H; exact H
              clear H
              have H := H1
              clear H1
              obtain ⟨bq7, hbq7⟩ : ∃ b_ : Bool, b_ = ((rd_T81 l0 x10_1).f2) := ⟨_, rfl⟩
              replace H : (if bq7 = true then ((spec_l1Num.f k1 ((rd_T81 l0 x10_1).f1)).bind fun t115 => (if 1 + t115.size ≤ 9223372036854775807 then (if ((⟨#[115]⟩ : ByteArray) ++ t115).size + 1 ≤ 9223372036854775807 then (if x3_1.size + (((⟨#[115]⟩ : ByteArray) ++ t115) ++ (⟨#[33]⟩ : ByteArray)).size ≤ 9223372036854775807 then (spec_kiText.l0 k1 (x3_1 ++ (((⟨#[115]⟩ : ByteArray) ++ t115) ++ (⟨#[33]⟩ : ByteArray))) l0 (l0.length : Int) (wrap64 (x10_1 + 1))) else (none)) else (none)) else (none))) else ((spec_l1Num.f k1 ((rd_T81 l0 x10_1).f1)).bind fun t116 => (if 1 + t116.size ≤ 9223372036854775807 then (if ((⟨#[115]⟩ : ByteArray) ++ t116).size + 1 ≤ 9223372036854775807 then (if x3_1.size + (((⟨#[115]⟩ : ByteArray) ++ t116) ++ (⟨#[46]⟩ : ByteArray)).size ≤ 9223372036854775807 then (spec_kiText.l0 k1 (x3_1 ++ (((⟨#[115]⟩ : ByteArray) ++ t116) ++ (⟨#[46]⟩ : ByteArray))) l0 (l0.length : Int) (wrap64 (x10_1 + 1))) else (none)) else (none)) else (none)))) = some r := by rw [← hbq7] at H; exact H
              have Nbq7 := Aside0.mk hbq7
              clear hbq7
              by_cases c8 : bq7 = true
              · subst c8
                have H1 : ((spec_l1Num.f k1 ((rd_T81 l0 x10_1).f1)).bind fun t115 => (if 1 + t115.size ≤ 9223372036854775807 then (if ((⟨#[115]⟩ : ByteArray) ++ t115).size + 1 ≤ 9223372036854775807 then (if x3_1.size + (((⟨#[115]⟩ : ByteArray) ++ t115) ++ (⟨#[33]⟩ : ByteArray)).size ≤ 9223372036854775807 then (spec_kiText.l0 k1 (x3_1 ++ (((⟨#[115]⟩ : ByteArray) ++ t115) ++ (⟨#[33]⟩ : ByteArray))) l0 (l0.length : Int) (wrap64 (x10_1 + 1))) else (none)) else (none)) else (none))) = some r := by rw [if_pos rfl] at H; exact H
                clear H
                have H := H1
                clear H1
                replace H := Option.bind_eq_some_iff.mp H
                obtain ⟨t115, A90, H⟩ := H
                replace H : (if 1 + t115.size ≤ 9223372036854775807 then (if ((⟨#[115]⟩ : ByteArray) ++ t115).size + 1 ≤ 9223372036854775807 then (if x3_1.size + (((⟨#[115]⟩ : ByteArray) ++ t115) ++ (⟨#[33]⟩ : ByteArray)).size ≤ 9223372036854775807 then (spec_kiText.l0 k1 (x3_1 ++ (((⟨#[115]⟩ : ByteArray) ++ t115) ++ (⟨#[33]⟩ : ByteArray))) l0 (l0.length : Int) (wrap64 (x10_1 + 1))) else (none)) else (none)) else (none)) = some r := H
                have A9 := Aside0.mk A90
                clear A90
                by_cases c10 : 1 + t115.size ≤ 9223372036854775807
                · rw [if_pos c10] at H
                  have c10b0 := eq_true c10
                  have c10b1 : decide (1 + t115.size ≤ 9223372036854775807) = true := decide_eq_true c10
                  try have c10b2 : (9223372036854775807 < 1 + t115.size) = False := eq_false (Nat.not_lt.2 c10)
                  (try (have c10b3 := c10b2; simp only [ByteArray.size_append, show ∀ b_ : UInt8, (⟨#[b_]⟩ : ByteArray).size = 1 from fun _ => rfl] at c10b3))
                  by_cases c11 : ((⟨#[115]⟩ : ByteArray) ++ t115).size + 1 ≤ 9223372036854775807
                  · rw [if_pos c11] at H
                    have c11b0 := eq_true c11
                    have c11b1 : decide (((⟨#[115]⟩ : ByteArray) ++ t115).size + 1 ≤ 9223372036854775807) = true := decide_eq_true c11
                    try have c11b2 : (9223372036854775807 < ((⟨#[115]⟩ : ByteArray) ++ t115).size + 1) = False := eq_false (Nat.not_lt.2 c11)
                    (try (have c11b3 := c11b2; simp only [ByteArray.size_append, show ∀ b_ : UInt8, (⟨#[b_]⟩ : ByteArray).size = 1 from fun _ => rfl] at c11b3))
                    by_cases c12 : x3_1.size + (((⟨#[115]⟩ : ByteArray) ++ t115) ++ (⟨#[33]⟩ : ByteArray)).size ≤ 9223372036854775807
                    · rw [if_pos c12] at H
                      have c12b0 := eq_true c12
                      have c12b1 : decide (x3_1.size + (((⟨#[115]⟩ : ByteArray) ++ t115) ++ (⟨#[33]⟩ : ByteArray)).size ≤ 9223372036854775807) = true := decide_eq_true c12
                      try have c12b2 : (9223372036854775807 < x3_1.size + (((⟨#[115]⟩ : ByteArray) ++ t115) ++ (⟨#[33]⟩ : ByteArray)).size) = False := eq_false (Nat.not_lt.2 c12)
                      (try (have c12b3 := c12b2; simp only [ByteArray.size_append, show ∀ b_ : UInt8, (⟨#[b_]⟩ : ByteArray).size = 1 from fun _ => rfl] at c12b3))
                      have H' := Aside0.mk H
                      clear H
                      have p113 : 0 ≤ (x10_1 : Int) := of_decide_eq_true (by first | (with_reducible assumption) | assumption)
                      have q113 : x10_1 < (l0.length : Int) := of_decide_eq_true (by first | (with_reducible assumption) | assumption)
                      obtain ⟨ad113, e113, hx113_0, hx113_1, hx113_2⟩ := at_T81 HR0.out x10_1 p113 q113
                      (try rw [← Nbq5.out] at hx113_0)
                      (try rw [← Nbq7.out] at hx113_0)
                      (try rw [← Nbq5.out] at hx113_2)
                      (try rw [← Nbq7.out] at hx113_2)
                      cases e113
                      replace hx113_0 := (HB.out.cell (World.block_lt_of_cell? w _ hx113_0)).trans hx113_0
                      replace hx113_1 := (HB.out.cell (World.block_lt_of_cell? w _ hx113_1)).trans hx113_1
                      replace hx113_2 := (HB.out.cell (World.block_lt_of_cell? w _ hx113_2)).trans hx113_2
                      replace p113 := eq_true p113
                      replace q113 := eq_true q113
                      go_wp2_with (first | ((with_reducible refine gate_dst (N := 5) rfl ?_); refine box_event ?hg (N := 5) ?hd (cs := #[.bool false, .int .i64 0, .bool false]) (t := 81) ?hr ?_; (case hd => rfl); (case hg => rfl); (case hr => first | (go_simp; done) | (go_simp; rfl)); intro gb114 hg w13 hbox hb; have n0_ := Aside0.mk (below_step (by repeat (first | (with_reducible first | exact HB.out | apply below_alloc | apply pw_below_drewN | apply below_drew1) | exact HB.out)) hb); have n1_ := Aside0.mk (hbox); have n2_ := Aside0.mk ((by rw [hg]; exact (below_size (by repeat (first | (with_reducible first | exact HB.out | apply below_alloc | apply pw_below_drewN | apply below_drew1) | exact HB.out))) : w.heap.size ≤ gb114)); have n3_ := Aside0.mk ((by rw [hg]; exact (below_size (by repeat (first | (with_reducible first | exact HB.out | apply below_alloc | apply pw_below_drewN | apply below_drew1) | exact HB.out))) : w.heap.size ≤ gb114)); clear HB; have HB := n0_; have BK114 := n1_; have GW114 := n2_; have GE114 := n3_; clear n0_ n1_ n2_ n3_; clear hb hbox hg; have hcz14_0 : w13.cell? ⟨gb114, 0, none⟩ = some (.bool false) := (blk_cell BK114.out 0).trans rfl; have hcz14_1 : w13.cell? ⟨gb114, 1, none⟩ = some (.int .i64 0) := (blk_cell BK114.out 1).trans rfl; have hcz14_2 : w13.cell? ⟨gb114, 2, none⟩ = some (.bool false) := (blk_cell BK114.out 2).trans rfl; have hfz14_0 := blk_frozen BK114.out 0; have hfz14_1 := blk_frozen BK114.out 1; have hfz14_2 := blk_frozen BK114.out 2) | ((with_reducible refine gate_callee (f := 86) rfl ?_); refine goesL_ (some 22) rfl rfl Tryd.func86 (by kernel_rfl) rfl #[.int .i64 ((rd_T81 l0 x10_1).f1)] rfl (by (try simp only [List.map_toArray, List.map_cons, List.map_nil]); first | done | rfl | (simp only [List.length_drop, List.length_take]; rfl)) ?_; (with_reducible refine (spec_l1Num.calls k1 ((rd_T81 l0 x10_1).f1) t115 _ A9.out).mono ?_); rintro e w15 ⟨rfl, hb⟩; refine ⟨_, rfl, ?_⟩; have n0_ := Aside0.mk (blk_below (g := gb114) (o := .cells #[.bool true, .int .i64 ((rd_T81 l0 x10_1).f1), .bool true] 81 (0, 0)) (by (with_reducible repeat (first | refine blk_drewN ?_ _ | refine blk_drew ?_ | refine blk_alloc ?_ _)); refine blk_put (cs := #[.bool true, .int .i64 ((rd_T81 l0 x10_1).f1), .bool false]) ?_ 2 _ rfl; (with_reducible repeat (first | refine blk_drewN ?_ _ | refine blk_drew ?_ | refine blk_alloc ?_ _)); refine blk_put (cs := #[.bool true, .int .i64 0, .bool false]) ?_ 1 _ rfl; (with_reducible repeat (first | refine blk_drewN ?_ _ | refine blk_drew ?_ | refine blk_alloc ?_ _)); refine blk_put (cs := #[.bool false, .int .i64 0, .bool false]) ?_ 0 _ rfl; (with_reducible repeat (first | refine blk_drewN ?_ _ | refine blk_drew ?_ | refine blk_alloc ?_ _)); exact BK114.out) hb); have n1_ := Aside0.mk (below_step (by repeat (first | (with_reducible first | exact HB.out | apply below_alloc | apply pw_below_drewN | apply below_drew1 | refine below_set ?_ GE114.out) | exact HB.out)) hb); clear BK114; clear HB; have BK114 := n0_; have HB := n1_; clear n0_ n1_; (try clear hb); (try clear hb2); (try clear hk); (try clear hi)))
                      go_roundg k1
                      case measure => have := HK1.out; omega
                      case rel => exact ⟨(x3_1 ++ (((⟨#[115]⟩ : ByteArray) ++ t115) ++ (⟨#[33]⟩ : ByteArray))), (wrap64 (x10_1 + 1)), (by first | rfl | (simp; done) | (simp [*]; done)), (by first | rfl | (simp; done) | (simp [*]; done)), H', ⟨by have := HK1.out; omega⟩, ⟨by repeat (first | (with_reducible first | exact HB.out | apply below_alloc | apply pw_below_drewN | apply below_drew1 | refine below_set ?_ GE114.out) | exact HB.out)⟩⟩
                    · rw [if_neg c12] at H
                      exact absurd H (by simp)
                  · rw [if_neg c11] at H
                    exact absurd H (by simp)
                · rw [if_neg c10] at H
                  exact absurd H (by simp)
              · replace c8 := Bool.eq_false_iff.mpr c8
                subst c8
                have H1 : ((spec_l1Num.f k1 ((rd_T81 l0 x10_1).f1)).bind fun t116 => (if 1 + t116.size ≤ 9223372036854775807 then (if ((⟨#[115]⟩ : ByteArray) ++ t116).size + 1 ≤ 9223372036854775807 then (if x3_1.size + (((⟨#[115]⟩ : ByteArray) ++ t116) ++ (⟨#[46]⟩ : ByteArray)).size ≤ 9223372036854775807 then (spec_kiText.l0 k1 (x3_1 ++ (((⟨#[115]⟩ : ByteArray) ++ t116) ++ (⟨#[46]⟩ : ByteArray))) l0 (l0.length : Int) (wrap64 (x10_1 + 1))) else (none)) else (none)) else (none))) = some r := by rw [if_neg (show ¬ (false = true) by decide)] at H; exact H
                clear H
                have H := H1
                clear H1
                replace H := Option.bind_eq_some_iff.mp H
                obtain ⟨t116, A160, H⟩ := H
                replace H : (if 1 + t116.size ≤ 9223372036854775807 then (if ((⟨#[115]⟩ : ByteArray) ++ t116).size + 1 ≤ 9223372036854775807 then (if x3_1.size + (((⟨#[115]⟩ : ByteArray) ++ t116) ++ (⟨#[46]⟩ : ByteArray)).size ≤ 9223372036854775807 then (spec_kiText.l0 k1 (x3_1 ++ (((⟨#[115]⟩ : ByteArray) ++ t116) ++ (⟨#[46]⟩ : ByteArray))) l0 (l0.length : Int) (wrap64 (x10_1 + 1))) else (none)) else (none)) else (none)) = some r := H
                have A16 := Aside0.mk A160
                clear A160
                by_cases c17 : 1 + t116.size ≤ 9223372036854775807
                · rw [if_pos c17] at H
                  have c17b0 := eq_true c17
                  have c17b1 : decide (1 + t116.size ≤ 9223372036854775807) = true := decide_eq_true c17
                  try have c17b2 : (9223372036854775807 < 1 + t116.size) = False := eq_false (Nat.not_lt.2 c17)
                  (try (have c17b3 := c17b2; simp only [ByteArray.size_append, show ∀ b_ : UInt8, (⟨#[b_]⟩ : ByteArray).size = 1 from fun _ => rfl] at c17b3))
                  by_cases c18 : ((⟨#[115]⟩ : ByteArray) ++ t116).size + 1 ≤ 9223372036854775807
                  · rw [if_pos c18] at H
                    have c18b0 := eq_true c18
                    have c18b1 : decide (((⟨#[115]⟩ : ByteArray) ++ t116).size + 1 ≤ 9223372036854775807) = true := decide_eq_true c18
                    try have c18b2 : (9223372036854775807 < ((⟨#[115]⟩ : ByteArray) ++ t116).size + 1) = False := eq_false (Nat.not_lt.2 c18)
                    (try (have c18b3 := c18b2; simp only [ByteArray.size_append, show ∀ b_ : UInt8, (⟨#[b_]⟩ : ByteArray).size = 1 from fun _ => rfl] at c18b3))
                    by_cases c19 : x3_1.size + (((⟨#[115]⟩ : ByteArray) ++ t116) ++ (⟨#[46]⟩ : ByteArray)).size ≤ 9223372036854775807
                    · rw [if_pos c19] at H
                      have c19b0 := eq_true c19
                      have c19b1 : decide (x3_1.size + (((⟨#[115]⟩ : ByteArray) ++ t116) ++ (⟨#[46]⟩ : ByteArray)).size ≤ 9223372036854775807) = true := decide_eq_true c19
                      try have c19b2 : (9223372036854775807 < x3_1.size + (((⟨#[115]⟩ : ByteArray) ++ t116) ++ (⟨#[46]⟩ : ByteArray)).size) = False := eq_false (Nat.not_lt.2 c19)
                      (try (have c19b3 := c19b2; simp only [ByteArray.size_append, show ∀ b_ : UInt8, (⟨#[b_]⟩ : ByteArray).size = 1 from fun _ => rfl] at c19b3))
                      have H' := Aside0.mk H
                      clear H
                      have p113 : 0 ≤ (x10_1 : Int) := of_decide_eq_true (by first | (with_reducible assumption) | assumption)
                      have q113 : x10_1 < (l0.length : Int) := of_decide_eq_true (by first | (with_reducible assumption) | assumption)
                      obtain ⟨ad113, e113, hx113_0, hx113_1, hx113_2⟩ := at_T81 HR0.out x10_1 p113 q113
                      (try rw [← Nbq5.out] at hx113_0)
                      (try rw [← Nbq7.out] at hx113_0)
                      (try rw [← Nbq5.out] at hx113_2)
                      (try rw [← Nbq7.out] at hx113_2)
                      cases e113
                      replace hx113_0 := (HB.out.cell (World.block_lt_of_cell? w _ hx113_0)).trans hx113_0
                      replace hx113_1 := (HB.out.cell (World.block_lt_of_cell? w _ hx113_1)).trans hx113_1
                      replace hx113_2 := (HB.out.cell (World.block_lt_of_cell? w _ hx113_2)).trans hx113_2
                      replace p113 := eq_true p113
                      replace q113 := eq_true q113
                      go_wp2_with (first | ((with_reducible refine gate_dst (N := 5) rfl ?_); refine box_event ?hg (N := 5) ?hd (cs := #[.bool false, .int .i64 0, .bool false]) (t := 81) ?hr ?_; (case hd => rfl); (case hg => rfl); (case hr => first | (go_simp; done) | (go_simp; rfl)); intro gb114 hg w20 hbox hb; have n0_ := Aside0.mk (below_step (by repeat (first | (with_reducible first | exact HB.out | apply below_alloc | apply pw_below_drewN | apply below_drew1) | exact HB.out)) hb); have n1_ := Aside0.mk (hbox); have n2_ := Aside0.mk ((by rw [hg]; exact (below_size (by repeat (first | (with_reducible first | exact HB.out | apply below_alloc | apply pw_below_drewN | apply below_drew1) | exact HB.out))) : w.heap.size ≤ gb114)); have n3_ := Aside0.mk ((by rw [hg]; exact (below_size (by repeat (first | (with_reducible first | exact HB.out | apply below_alloc | apply pw_below_drewN | apply below_drew1) | exact HB.out))) : w.heap.size ≤ gb114)); clear HB; have HB := n0_; have BK114 := n1_; have GW114 := n2_; have GE114 := n3_; clear n0_ n1_ n2_ n3_; clear hb hbox hg; have hcz21_0 : w20.cell? ⟨gb114, 0, none⟩ = some (.bool false) := (blk_cell BK114.out 0).trans rfl; have hcz21_1 : w20.cell? ⟨gb114, 1, none⟩ = some (.int .i64 0) := (blk_cell BK114.out 1).trans rfl; have hcz21_2 : w20.cell? ⟨gb114, 2, none⟩ = some (.bool false) := (blk_cell BK114.out 2).trans rfl; have hfz21_0 := blk_frozen BK114.out 0; have hfz21_1 := blk_frozen BK114.out 1; have hfz21_2 := blk_frozen BK114.out 2) | ((with_reducible refine gate_callee (f := 86) rfl ?_); refine goesL_ (some 22) rfl rfl Tryd.func86 (by kernel_rfl) rfl #[.int .i64 ((rd_T81 l0 x10_1).f1)] rfl (by (try simp only [List.map_toArray, List.map_cons, List.map_nil]); first | done | rfl | (simp only [List.length_drop, List.length_take]; rfl)) ?_; (with_reducible refine (spec_l1Num.calls k1 ((rd_T81 l0 x10_1).f1) t116 _ A16.out).mono ?_); rintro e w22 ⟨rfl, hb⟩; refine ⟨_, rfl, ?_⟩; have n0_ := Aside0.mk (blk_below (g := gb114) (o := .cells #[.bool true, .int .i64 ((rd_T81 l0 x10_1).f1), .bool false] 81 (0, 0)) (by (with_reducible repeat (first | refine blk_drewN ?_ _ | refine blk_drew ?_ | refine blk_alloc ?_ _)); refine blk_put (cs := #[.bool true, .int .i64 ((rd_T81 l0 x10_1).f1), .bool false]) ?_ 2 _ rfl; (with_reducible repeat (first | refine blk_drewN ?_ _ | refine blk_drew ?_ | refine blk_alloc ?_ _)); refine blk_put (cs := #[.bool true, .int .i64 0, .bool false]) ?_ 1 _ rfl; (with_reducible repeat (first | refine blk_drewN ?_ _ | refine blk_drew ?_ | refine blk_alloc ?_ _)); refine blk_put (cs := #[.bool false, .int .i64 0, .bool false]) ?_ 0 _ rfl; (with_reducible repeat (first | refine blk_drewN ?_ _ | refine blk_drew ?_ | refine blk_alloc ?_ _)); exact BK114.out) hb); have n1_ := Aside0.mk (below_step (by repeat (first | (with_reducible first | exact HB.out | apply below_alloc | apply pw_below_drewN | apply below_drew1 | refine below_set ?_ GE114.out) | exact HB.out)) hb); clear BK114; clear HB; have BK114 := n0_; have HB := n1_; clear n0_ n1_; (try clear hb); (try clear hb2); (try clear hk); (try clear hi)))
                      go_roundg k1
                      case measure => have := HK1.out; omega
                      case rel => exact ⟨(x3_1 ++ (((⟨#[115]⟩ : ByteArray) ++ t116) ++ (⟨#[46]⟩ : ByteArray))), (wrap64 (x10_1 + 1)), (by first | rfl | (simp; done) | (simp [*]; done)), (by first | rfl | (simp; done) | (simp [*]; done)), H', ⟨by have := HK1.out; omega⟩, ⟨by repeat (first | (with_reducible first | exact HB.out | apply below_alloc | apply pw_below_drewN | apply below_drew1 | refine below_set ?_ GE114.out) | exact HB.out)⟩⟩
                    · rw [if_neg c19] at H
                      exact absurd H (by simp)
                  · rw [if_neg c18] at H
                    exact absurd H (by simp)
                · rw [if_neg c17] at H
                  exact absurd H (by simp)
            · replace c6 := Bool.eq_false_iff.mpr c6
              subst c6
              have H1 : (if (rd_T81 l0 x10_1).f2 = true then ((spec_l1Num.f k1 ((rd_T81 l0 x10_1).f1)).bind fun t117 => (if 1 + t117.size ≤ 9223372036854775807 then (if ((⟨#[119]⟩ : ByteArray) ++ t117).size + 1 ≤ 9223372036854775807 then (if x3_1.size + (((⟨#[119]⟩ : ByteArray) ++ t117) ++ (⟨#[33]⟩ : ByteArray)).size ≤ 9223372036854775807 then (spec_kiText.l0 k1 (x3_1 ++ (((⟨#[119]⟩ : ByteArray) ++ t117) ++ (⟨#[33]⟩ : ByteArray))) l0 (l0.length : Int) (wrap64 (x10_1 + 1))) else (none)) else (none)) else (none))) else ((spec_l1Num.f k1 ((rd_T81 l0 x10_1).f1)).bind fun t118 => (if 1 + t118.size ≤ 9223372036854775807 then (if ((⟨#[119]⟩ : ByteArray) ++ t118).size + 1 ≤ 9223372036854775807 then (if x3_1.size + (((⟨#[119]⟩ : ByteArray) ++ t118) ++ (⟨#[46]⟩ : ByteArray)).size ≤ 9223372036854775807 then (spec_kiText.l0 k1 (x3_1 ++ (((⟨#[119]⟩ : ByteArray) ++ t118) ++ (⟨#[46]⟩ : ByteArray))) l0 (l0.length : Int) (wrap64 (x10_1 + 1))) else (none)) else (none)) else (none)))) = some r := by rw [if_neg (show ¬ (false = true) by decide)] at H; exact H
              clear H
              have H := H1
              clear H1
              obtain ⟨bq23, hbq23⟩ : ∃ b_ : Bool, b_ = ((rd_T81 l0 x10_1).f2) := ⟨_, rfl⟩
              replace H : (if bq23 = true then ((spec_l1Num.f k1 ((rd_T81 l0 x10_1).f1)).bind fun t117 => (if 1 + t117.size ≤ 9223372036854775807 then (if ((⟨#[119]⟩ : ByteArray) ++ t117).size + 1 ≤ 9223372036854775807 then (if x3_1.size + (((⟨#[119]⟩ : ByteArray) ++ t117) ++ (⟨#[33]⟩ : ByteArray)).size ≤ 9223372036854775807 then (spec_kiText.l0 k1 (x3_1 ++ (((⟨#[119]⟩ : ByteArray) ++ t117) ++ (⟨#[33]⟩ : ByteArray))) l0 (l0.length : Int) (wrap64 (x10_1 + 1))) else (none)) else (none)) else (none))) else ((spec_l1Num.f k1 ((rd_T81 l0 x10_1).f1)).bind fun t118 => (if 1 + t118.size ≤ 9223372036854775807 then (if ((⟨#[119]⟩ : ByteArray) ++ t118).size + 1 ≤ 9223372036854775807 then (if x3_1.size + (((⟨#[119]⟩ : ByteArray) ++ t118) ++ (⟨#[46]⟩ : ByteArray)).size ≤ 9223372036854775807 then (spec_kiText.l0 k1 (x3_1 ++ (((⟨#[119]⟩ : ByteArray) ++ t118) ++ (⟨#[46]⟩ : ByteArray))) l0 (l0.length : Int) (wrap64 (x10_1 + 1))) else (none)) else (none)) else (none)))) = some r := by rw [← hbq23] at H; exact H
              have Nbq23 := Aside0.mk hbq23
              clear hbq23
              by_cases c24 : bq23 = true
              · subst c24
                have H1 : ((spec_l1Num.f k1 ((rd_T81 l0 x10_1).f1)).bind fun t117 => (if 1 + t117.size ≤ 9223372036854775807 then (if ((⟨#[119]⟩ : ByteArray) ++ t117).size + 1 ≤ 9223372036854775807 then (if x3_1.size + (((⟨#[119]⟩ : ByteArray) ++ t117) ++ (⟨#[33]⟩ : ByteArray)).size ≤ 9223372036854775807 then (spec_kiText.l0 k1 (x3_1 ++ (((⟨#[119]⟩ : ByteArray) ++ t117) ++ (⟨#[33]⟩ : ByteArray))) l0 (l0.length : Int) (wrap64 (x10_1 + 1))) else (none)) else (none)) else (none))) = some r := by rw [if_pos rfl] at H; exact H
                clear H
                have H := H1
                clear H1
                replace H := Option.bind_eq_some_iff.mp H
                obtain ⟨t117, A250, H⟩ := H
                replace H : (if 1 + t117.size ≤ 9223372036854775807 then (if ((⟨#[119]⟩ : ByteArray) ++ t117).size + 1 ≤ 9223372036854775807 then (if x3_1.size + (((⟨#[119]⟩ : ByteArray) ++ t117) ++ (⟨#[33]⟩ : ByteArray)).size ≤ 9223372036854775807 then (spec_kiText.l0 k1 (x3_1 ++ (((⟨#[119]⟩ : ByteArray) ++ t117) ++ (⟨#[33]⟩ : ByteArray))) l0 (l0.length : Int) (wrap64 (x10_1 + 1))) else (none)) else (none)) else (none)) = some r := H
                have A25 := Aside0.mk A250
                clear A250
                by_cases c26 : 1 + t117.size ≤ 9223372036854775807
                · rw [if_pos c26] at H
                  have c26b0 := eq_true c26
                  have c26b1 : decide (1 + t117.size ≤ 9223372036854775807) = true := decide_eq_true c26
                  try have c26b2 : (9223372036854775807 < 1 + t117.size) = False := eq_false (Nat.not_lt.2 c26)
                  (try (have c26b3 := c26b2; simp only [ByteArray.size_append, show ∀ b_ : UInt8, (⟨#[b_]⟩ : ByteArray).size = 1 from fun _ => rfl] at c26b3))
                  by_cases c27 : ((⟨#[119]⟩ : ByteArray) ++ t117).size + 1 ≤ 9223372036854775807
                  · rw [if_pos c27] at H
                    have c27b0 := eq_true c27
                    have c27b1 : decide (((⟨#[119]⟩ : ByteArray) ++ t117).size + 1 ≤ 9223372036854775807) = true := decide_eq_true c27
                    try have c27b2 : (9223372036854775807 < ((⟨#[119]⟩ : ByteArray) ++ t117).size + 1) = False := eq_false (Nat.not_lt.2 c27)
                    (try (have c27b3 := c27b2; simp only [ByteArray.size_append, show ∀ b_ : UInt8, (⟨#[b_]⟩ : ByteArray).size = 1 from fun _ => rfl] at c27b3))
                    by_cases c28 : x3_1.size + (((⟨#[119]⟩ : ByteArray) ++ t117) ++ (⟨#[33]⟩ : ByteArray)).size ≤ 9223372036854775807
                    · rw [if_pos c28] at H
                      have c28b0 := eq_true c28
                      have c28b1 : decide (x3_1.size + (((⟨#[119]⟩ : ByteArray) ++ t117) ++ (⟨#[33]⟩ : ByteArray)).size ≤ 9223372036854775807) = true := decide_eq_true c28
                      try have c28b2 : (9223372036854775807 < x3_1.size + (((⟨#[119]⟩ : ByteArray) ++ t117) ++ (⟨#[33]⟩ : ByteArray)).size) = False := eq_false (Nat.not_lt.2 c28)
                      (try (have c28b3 := c28b2; simp only [ByteArray.size_append, show ∀ b_ : UInt8, (⟨#[b_]⟩ : ByteArray).size = 1 from fun _ => rfl] at c28b3))
                      have H' := Aside0.mk H
                      clear H
                      have p113 : 0 ≤ (x10_1 : Int) := of_decide_eq_true (by first | (with_reducible assumption) | assumption)
                      have q113 : x10_1 < (l0.length : Int) := of_decide_eq_true (by first | (with_reducible assumption) | assumption)
                      obtain ⟨ad113, e113, hx113_0, hx113_1, hx113_2⟩ := at_T81 HR0.out x10_1 p113 q113
                      (try rw [← Nbq5.out] at hx113_0)
                      (try rw [← Nbq23.out] at hx113_0)
                      (try rw [← Nbq5.out] at hx113_2)
                      (try rw [← Nbq23.out] at hx113_2)
                      cases e113
                      replace hx113_0 := (HB.out.cell (World.block_lt_of_cell? w _ hx113_0)).trans hx113_0
                      replace hx113_1 := (HB.out.cell (World.block_lt_of_cell? w _ hx113_1)).trans hx113_1
                      replace hx113_2 := (HB.out.cell (World.block_lt_of_cell? w _ hx113_2)).trans hx113_2
                      replace p113 := eq_true p113
                      replace q113 := eq_true q113
                      go_wp2_with (first | ((with_reducible refine gate_dst (N := 5) rfl ?_); refine box_event ?hg (N := 5) ?hd (cs := #[.bool false, .int .i64 0, .bool false]) (t := 81) ?hr ?_; (case hd => rfl); (case hg => rfl); (case hr => first | (go_simp; done) | (go_simp; rfl)); intro gb114 hg w29 hbox hb; have n0_ := Aside0.mk (below_step (by repeat (first | (with_reducible first | exact HB.out | apply below_alloc | apply pw_below_drewN | apply below_drew1) | exact HB.out)) hb); have n1_ := Aside0.mk (hbox); have n2_ := Aside0.mk ((by rw [hg]; exact (below_size (by repeat (first | (with_reducible first | exact HB.out | apply below_alloc | apply pw_below_drewN | apply below_drew1) | exact HB.out))) : w.heap.size ≤ gb114)); have n3_ := Aside0.mk ((by rw [hg]; exact (below_size (by repeat (first | (with_reducible first | exact HB.out | apply below_alloc | apply pw_below_drewN | apply below_drew1) | exact HB.out))) : w.heap.size ≤ gb114)); clear HB; have HB := n0_; have BK114 := n1_; have GW114 := n2_; have GE114 := n3_; clear n0_ n1_ n2_ n3_; clear hb hbox hg; have hcz30_0 : w29.cell? ⟨gb114, 0, none⟩ = some (.bool false) := (blk_cell BK114.out 0).trans rfl; have hcz30_1 : w29.cell? ⟨gb114, 1, none⟩ = some (.int .i64 0) := (blk_cell BK114.out 1).trans rfl; have hcz30_2 : w29.cell? ⟨gb114, 2, none⟩ = some (.bool false) := (blk_cell BK114.out 2).trans rfl; have hfz30_0 := blk_frozen BK114.out 0; have hfz30_1 := blk_frozen BK114.out 1; have hfz30_2 := blk_frozen BK114.out 2) | ((with_reducible refine gate_callee (f := 86) rfl ?_); refine goesL_ (some 22) rfl rfl Tryd.func86 (by kernel_rfl) rfl #[.int .i64 ((rd_T81 l0 x10_1).f1)] rfl (by (try simp only [List.map_toArray, List.map_cons, List.map_nil]); first | done | rfl | (simp only [List.length_drop, List.length_take]; rfl)) ?_; (with_reducible refine (spec_l1Num.calls k1 ((rd_T81 l0 x10_1).f1) t117 _ A25.out).mono ?_); rintro e w31 ⟨rfl, hb⟩; refine ⟨_, rfl, ?_⟩; have n0_ := Aside0.mk (blk_below (g := gb114) (o := .cells #[.bool false, .int .i64 ((rd_T81 l0 x10_1).f1), .bool true] 81 (0, 0)) (by (with_reducible repeat (first | refine blk_drewN ?_ _ | refine blk_drew ?_ | refine blk_alloc ?_ _)); refine blk_put (cs := #[.bool false, .int .i64 ((rd_T81 l0 x10_1).f1), .bool false]) ?_ 2 _ rfl; (with_reducible repeat (first | refine blk_drewN ?_ _ | refine blk_drew ?_ | refine blk_alloc ?_ _)); refine blk_put (cs := #[.bool false, .int .i64 0, .bool false]) ?_ 1 _ rfl; (with_reducible repeat (first | refine blk_drewN ?_ _ | refine blk_drew ?_ | refine blk_alloc ?_ _)); refine blk_put (cs := #[.bool false, .int .i64 0, .bool false]) ?_ 0 _ rfl; (with_reducible repeat (first | refine blk_drewN ?_ _ | refine blk_drew ?_ | refine blk_alloc ?_ _)); exact BK114.out) hb); have n1_ := Aside0.mk (below_step (by repeat (first | (with_reducible first | exact HB.out | apply below_alloc | apply pw_below_drewN | apply below_drew1 | refine below_set ?_ GE114.out) | exact HB.out)) hb); clear BK114; clear HB; have BK114 := n0_; have HB := n1_; clear n0_ n1_; (try clear hb); (try clear hb2); (try clear hk); (try clear hi)))
                      go_roundg k1
                      case measure => have := HK1.out; omega
                      case rel => exact ⟨(x3_1 ++ (((⟨#[119]⟩ : ByteArray) ++ t117) ++ (⟨#[33]⟩ : ByteArray))), (wrap64 (x10_1 + 1)), (by first | rfl | (simp; done) | (simp [*]; done)), (by first | rfl | (simp; done) | (simp [*]; done)), H', ⟨by have := HK1.out; omega⟩, ⟨by repeat (first | (with_reducible first | exact HB.out | apply below_alloc | apply pw_below_drewN | apply below_drew1 | refine below_set ?_ GE114.out) | exact HB.out)⟩⟩
                    · rw [if_neg c28] at H
                      exact absurd H (by simp)
                  · rw [if_neg c27] at H
                    exact absurd H (by simp)
                · rw [if_neg c26] at H
                  exact absurd H (by simp)
              · replace c24 := Bool.eq_false_iff.mpr c24
                subst c24
                have H1 : ((spec_l1Num.f k1 ((rd_T81 l0 x10_1).f1)).bind fun t118 => (if 1 + t118.size ≤ 9223372036854775807 then (if ((⟨#[119]⟩ : ByteArray) ++ t118).size + 1 ≤ 9223372036854775807 then (if x3_1.size + (((⟨#[119]⟩ : ByteArray) ++ t118) ++ (⟨#[46]⟩ : ByteArray)).size ≤ 9223372036854775807 then (spec_kiText.l0 k1 (x3_1 ++ (((⟨#[119]⟩ : ByteArray) ++ t118) ++ (⟨#[46]⟩ : ByteArray))) l0 (l0.length : Int) (wrap64 (x10_1 + 1))) else (none)) else (none)) else (none))) = some r := by rw [if_neg (show ¬ (false = true) by decide)] at H; exact H
                clear H
                have H := H1
                clear H1
                replace H := Option.bind_eq_some_iff.mp H
                obtain ⟨t118, A320, H⟩ := H
                replace H : (if 1 + t118.size ≤ 9223372036854775807 then (if ((⟨#[119]⟩ : ByteArray) ++ t118).size + 1 ≤ 9223372036854775807 then (if x3_1.size + (((⟨#[119]⟩ : ByteArray) ++ t118) ++ (⟨#[46]⟩ : ByteArray)).size ≤ 9223372036854775807 then (spec_kiText.l0 k1 (x3_1 ++ (((⟨#[119]⟩ : ByteArray) ++ t118) ++ (⟨#[46]⟩ : ByteArray))) l0 (l0.length : Int) (wrap64 (x10_1 + 1))) else (none)) else (none)) else (none)) = some r := H
                have A32 := Aside0.mk A320
                clear A320
                by_cases c33 : 1 + t118.size ≤ 9223372036854775807
                · rw [if_pos c33] at H
                  have c33b0 := eq_true c33
                  have c33b1 : decide (1 + t118.size ≤ 9223372036854775807) = true := decide_eq_true c33
                  try have c33b2 : (9223372036854775807 < 1 + t118.size) = False := eq_false (Nat.not_lt.2 c33)
                  (try (have c33b3 := c33b2; simp only [ByteArray.size_append, show ∀ b_ : UInt8, (⟨#[b_]⟩ : ByteArray).size = 1 from fun _ => rfl] at c33b3))
                  by_cases c34 : ((⟨#[119]⟩ : ByteArray) ++ t118).size + 1 ≤ 9223372036854775807
                  · rw [if_pos c34] at H
                    have c34b0 := eq_true c34
                    have c34b1 : decide (((⟨#[119]⟩ : ByteArray) ++ t118).size + 1 ≤ 9223372036854775807) = true := decide_eq_true c34
                    try have c34b2 : (9223372036854775807 < ((⟨#[119]⟩ : ByteArray) ++ t118).size + 1) = False := eq_false (Nat.not_lt.2 c34)
                    (try (have c34b3 := c34b2; simp only [ByteArray.size_append, show ∀ b_ : UInt8, (⟨#[b_]⟩ : ByteArray).size = 1 from fun _ => rfl] at c34b3))
                    by_cases c35 : x3_1.size + (((⟨#[119]⟩ : ByteArray) ++ t118) ++ (⟨#[46]⟩ : ByteArray)).size ≤ 9223372036854775807
                    · rw [if_pos c35] at H
                      have c35b0 := eq_true c35
                      have c35b1 : decide (x3_1.size + (((⟨#[119]⟩ : ByteArray) ++ t118) ++ (⟨#[46]⟩ : ByteArray)).size ≤ 9223372036854775807) = true := decide_eq_true c35
                      try have c35b2 : (9223372036854775807 < x3_1.size + (((⟨#[119]⟩ : ByteArray) ++ t118) ++ (⟨#[46]⟩ : ByteArray)).size) = False := eq_false (Nat.not_lt.2 c35)
                      (try (have c35b3 := c35b2; simp only [ByteArray.size_append, show ∀ b_ : UInt8, (⟨#[b_]⟩ : ByteArray).size = 1 from fun _ => rfl] at c35b3))
                      have H' := Aside0.mk H
                      clear H
                      have p113 : 0 ≤ (x10_1 : Int) := of_decide_eq_true (by first | (with_reducible assumption) | assumption)
                      have q113 : x10_1 < (l0.length : Int) := of_decide_eq_true (by first | (with_reducible assumption) | assumption)
                      obtain ⟨ad113, e113, hx113_0, hx113_1, hx113_2⟩ := at_T81 HR0.out x10_1 p113 q113
                      (try rw [← Nbq5.out] at hx113_0)
                      (try rw [← Nbq23.out] at hx113_0)
                      (try rw [← Nbq5.out] at hx113_2)
                      (try rw [← Nbq23.out] at hx113_2)
                      cases e113
                      replace hx113_0 := (HB.out.cell (World.block_lt_of_cell? w _ hx113_0)).trans hx113_0
                      replace hx113_1 := (HB.out.cell (World.block_lt_of_cell? w _ hx113_1)).trans hx113_1
                      replace hx113_2 := (HB.out.cell (World.block_lt_of_cell? w _ hx113_2)).trans hx113_2
                      replace p113 := eq_true p113
                      replace q113 := eq_true q113
                      go_wp2_with (first | ((with_reducible refine gate_dst (N := 5) rfl ?_); refine box_event ?hg (N := 5) ?hd (cs := #[.bool false, .int .i64 0, .bool false]) (t := 81) ?hr ?_; (case hd => rfl); (case hg => rfl); (case hr => first | (go_simp; done) | (go_simp; rfl)); intro gb114 hg w36 hbox hb; have n0_ := Aside0.mk (below_step (by repeat (first | (with_reducible first | exact HB.out | apply below_alloc | apply pw_below_drewN | apply below_drew1) | exact HB.out)) hb); have n1_ := Aside0.mk (hbox); have n2_ := Aside0.mk ((by rw [hg]; exact (below_size (by repeat (first | (with_reducible first | exact HB.out | apply below_alloc | apply pw_below_drewN | apply below_drew1) | exact HB.out))) : w.heap.size ≤ gb114)); have n3_ := Aside0.mk ((by rw [hg]; exact (below_size (by repeat (first | (with_reducible first | exact HB.out | apply below_alloc | apply pw_below_drewN | apply below_drew1) | exact HB.out))) : w.heap.size ≤ gb114)); clear HB; have HB := n0_; have BK114 := n1_; have GW114 := n2_; have GE114 := n3_; clear n0_ n1_ n2_ n3_; clear hb hbox hg; have hcz37_0 : w36.cell? ⟨gb114, 0, none⟩ = some (.bool false) := (blk_cell BK114.out 0).trans rfl; have hcz37_1 : w36.cell? ⟨gb114, 1, none⟩ = some (.int .i64 0) := (blk_cell BK114.out 1).trans rfl; have hcz37_2 : w36.cell? ⟨gb114, 2, none⟩ = some (.bool false) := (blk_cell BK114.out 2).trans rfl; have hfz37_0 := blk_frozen BK114.out 0; have hfz37_1 := blk_frozen BK114.out 1; have hfz37_2 := blk_frozen BK114.out 2) | ((with_reducible refine gate_callee (f := 86) rfl ?_); refine goesL_ (some 22) rfl rfl Tryd.func86 (by kernel_rfl) rfl #[.int .i64 ((rd_T81 l0 x10_1).f1)] rfl (by (try simp only [List.map_toArray, List.map_cons, List.map_nil]); first | done | rfl | (simp only [List.length_drop, List.length_take]; rfl)) ?_; (with_reducible refine (spec_l1Num.calls k1 ((rd_T81 l0 x10_1).f1) t118 _ A32.out).mono ?_); rintro e w38 ⟨rfl, hb⟩; refine ⟨_, rfl, ?_⟩; have n0_ := Aside0.mk (blk_below (g := gb114) (o := .cells #[.bool false, .int .i64 ((rd_T81 l0 x10_1).f1), .bool false] 81 (0, 0)) (by (with_reducible repeat (first | refine blk_drewN ?_ _ | refine blk_drew ?_ | refine blk_alloc ?_ _)); refine blk_put (cs := #[.bool false, .int .i64 ((rd_T81 l0 x10_1).f1), .bool false]) ?_ 2 _ rfl; (with_reducible repeat (first | refine blk_drewN ?_ _ | refine blk_drew ?_ | refine blk_alloc ?_ _)); refine blk_put (cs := #[.bool false, .int .i64 0, .bool false]) ?_ 1 _ rfl; (with_reducible repeat (first | refine blk_drewN ?_ _ | refine blk_drew ?_ | refine blk_alloc ?_ _)); refine blk_put (cs := #[.bool false, .int .i64 0, .bool false]) ?_ 0 _ rfl; (with_reducible repeat (first | refine blk_drewN ?_ _ | refine blk_drew ?_ | refine blk_alloc ?_ _)); exact BK114.out) hb); have n1_ := Aside0.mk (below_step (by repeat (first | (with_reducible first | exact HB.out | apply below_alloc | apply pw_below_drewN | apply below_drew1 | refine below_set ?_ GE114.out) | exact HB.out)) hb); clear BK114; clear HB; have BK114 := n0_; have HB := n1_; clear n0_ n1_; (try clear hb); (try clear hb2); (try clear hk); (try clear hi)))
                      go_roundg k1
                      case measure => have := HK1.out; omega
                      case rel => exact ⟨(x3_1 ++ (((⟨#[119]⟩ : ByteArray) ++ t118) ++ (⟨#[46]⟩ : ByteArray))), (wrap64 (x10_1 + 1)), (by first | rfl | (simp; done) | (simp [*]; done)), (by first | rfl | (simp; done) | (simp [*]; done)), H', ⟨by have := HK1.out; omega⟩, ⟨by repeat (first | (with_reducible first | exact HB.out | apply below_alloc | apply pw_below_drewN | apply below_drew1 | refine below_set ?_ GE114.out) | exact HB.out)⟩⟩
                    · rw [if_neg c35] at H
                      exact absurd H (by simp)
                  · rw [if_neg c34] at H
                    exact absurd H (by simp)
                · rw [if_neg c33] at H
                  exact absurd H (by simp)
          · rw [if_neg c4] at H
            exact absurd H (by simp)
        · rw [if_neg c3] at H
          exact absurd H (by simp)
      · rw [if_neg c2] at H
        have c2b0 : decide (x10_1 < (l0.length : Int)) = false := decide_eq_false c2
        clear c2
        obtain rfl := Option.some.inj H
        go_wp2
        go_ret
        exact ⟨by first | rfl | (simp [errW_none, errW_some] <;> rfl) | (simp [*, errW_none, errW_some] <;> rfl), by repeat (first | (with_reducible first | exact HB.out | apply below_alloc | apply pw_below_drewN | apply below_drew1) | exact HB.out)⟩

/-! ### spec_ParseKindTests: function 37 -/
mutual
def spec_ParseKindTests.j0 : Nat → ByteArray → Bool → Option ((List (S81)) × Bool)
  | 0, _, _ => none
  | k + 1, x0, x14 => if x14 = true then (some (([] : List (S81)), false)) else (spec_ParseKindTests.l0 k x0 ([] : List (S81)) 0)
def spec_ParseKindTests.l0 : Nat → ByteArray → List (S81) → Int → Option ((List (S81)) × Bool)
  | 0, _, _, _ => none
  | k + 1, x0, x4, x5 => if x5 < (x0.size : Int) then (if 0 ≤ x5 then (if 0 ≤ (wrap64 (x5 + 1)) then (if (wrap64 (x5 + 1)) < (x0.size : Int) then (if 0 ≤ (wrap64 (x5 + 2)) then (if (wrap64 (x5 + 2)) < (x0.size : Int) then (if x4.length < 5864062014805 then (spec_ParseKindTests.l0 k x0 (x4 ++ [(⟨((bt x0 x5) == 115), wrap64 ((wrap64 (bt x0 (wrap64 (x5 + 1)))) - 48), ((bt x0 (wrap64 (x5 + 2))) == 33)⟩ : S81)]) (wrap64 (x5 + 3))) else (none)) else (none)) else (none)) else (none)) else (none)) else (none)) else ((spec_kiTests.f k 6 x4).bind fun t122 => (if t122 = true then ((spec_kiText.f k x4).bind fun t123 => (if t123.toList = x0.toList then (some (x4, true)) else (some (([] : List (S81)), false)))) else (some (([] : List (S81)), false))))
end
def spec_ParseKindTests.f (k : Nat) (a0 : ByteArray) : Option ((List (S81)) × Bool) := if ((a0.size : Int) % 3) = 0 then (spec_ParseKindTests.j0 k a0 (decide ((a0.size : Int) > 120))) else (spec_ParseKindTests.j0 k a0 true)
theorem spec_ParseKindTests.mono_l : ∀ k, (∀ y0 y1, LeO (spec_ParseKindTests.j0 k y0 y1) (spec_ParseKindTests.j0 (k + 1) y0 y1)) ∧ (∀ y0 y1 y2, LeO (spec_ParseKindTests.l0 k y0 y1 y2) (spec_ParseKindTests.l0 (k + 1) y0 y1 y2))
  | 0 => ⟨fun _ _ r h => by simp [spec_ParseKindTests.j0] at h, fun _ _ _ r h => by simp [spec_ParseKindTests.l0] at h⟩
  | k + 1 => by
    obtain ⟨ih0, ih1⟩ := spec_ParseKindTests.mono_l k
    refine ⟨?_, ?_⟩
    · intro y0 y1
      unfold spec_ParseKindTests.j0
      repeat' first
      | (with_reducible exact ih0 _ _)
      | (with_reducible exact ih1 _ _ _)
      | (with_reducible exact spec_kiTests.mono _ _ _)
      | (with_reducible exact spec_kiText.mono _ _)
      | (with_reducible exact LeO.refl _)
      | (with_reducible exact LeO.none _)
      | (with_reducible refine LeO.ite ?_ ?_)
      | (with_reducible refine LeO.bind ?_ (fun _ => ?_))
      | exact ih0 _ _
      | exact ih1 _ _ _
      | exact spec_kiTests.mono _ _ _
      | exact spec_kiText.mono _ _
      | exact LeO.none _
      | refine LeO.ite ?_ ?_
      | refine LeO.bind ?_ (fun _ => ?_)
    · intro y0 y1 y2
      unfold spec_ParseKindTests.l0
      repeat' first
      | (with_reducible exact ih0 _ _)
      | (with_reducible exact ih1 _ _ _)
      | (with_reducible exact spec_kiTests.mono _ _ _)
      | (with_reducible exact spec_kiText.mono _ _)
      | (with_reducible exact LeO.refl _)
      | (with_reducible exact LeO.none _)
      | (with_reducible refine LeO.ite ?_ ?_)
      | (with_reducible refine LeO.bind ?_ (fun _ => ?_))
      | exact ih0 _ _
      | exact ih1 _ _ _
      | exact spec_kiTests.mono _ _ _
      | exact spec_kiText.mono _ _
      | exact LeO.none _
      | refine LeO.ite ?_ ?_
      | refine LeO.bind ?_ (fun _ => ?_)
theorem spec_ParseKindTests.mono : ∀ a0 k, LeO (spec_ParseKindTests.f k a0) (spec_ParseKindTests.f (k + 1) a0) := by
  intro a0 k
  obtain ⟨ih0, ih1⟩ := spec_ParseKindTests.mono_l k
  unfold spec_ParseKindTests.f
  repeat' first
      | (with_reducible exact ih0 _ _)
      | (with_reducible exact ih1 _ _ _)
      | (with_reducible exact spec_kiTests.mono _ _ _)
      | (with_reducible exact spec_kiText.mono _ _)
      | (with_reducible exact LeO.refl _)
      | (with_reducible exact LeO.none _)
      | (with_reducible refine LeO.ite ?_ ?_)
      | (with_reducible refine LeO.bind ?_ (fun _ => ?_))
      | exact ih0 _ _
      | exact ih1 _ _ _
      | exact spec_kiTests.mono _ _ _
      | exact spec_kiText.mono _ _
      | exact LeO.none _
      | refine LeO.ite ?_ ?_
      | refine LeO.bind ?_ (fun _ => ?_)
def spec_ParseKindTests.T7 : Bool × List (List Nat × List Nat) := (true, [([], []), ([], []), ([], []), ([1, 2], [1, 2]), ([3], [3]), ([], []), ([], []), ([6], [6]), ([5, 7], [5, 7]), ([8], [8]), ([9], [9]), ([], []), ([], []), ([12], [12]), ([11, 13], [11, 13]), ([14], [14]), ([4, 10, 15], [4, 10, 15]), ([16], [16]), ([0, 17], [0, 17]), ([18, 18, 0, 1, 2, 3, 4, 5, 6, 7, 8, 9, 10, 11, 12, 13, 14, 15, 16, 17, 18], [0, 18])])
def spec_ParseKindTests.B7 : List Nat := [0, 0, 0, 6, 14, 0, 0, 64, 224, 480, 992, 0, 0, 4096, 14336, 30720, 65534, 131070, 262143, 524287]
theorem spec_ParseKindTests.tab7 : rtab .any (opsOf Tryd.f37 7) = spec_ParseKindTests.T7 := by kernel_rfl
theorem spec_ParseKindTests.bits7 : waitsOk spec_ParseKindTests.T7.2 spec_ParseKindTests.B7 = true := by kernel_rfl
set_option maxHeartbeats 8000000 in
set_option maxRecDepth 100000 in
theorem spec_ParseKindTests.calls (k : Nat) (a0 : ByteArray) (r1 : List (S81)) (r2 : Bool) (w : World) (h : spec_ParseKindTests.f k a0 = some (r1, r2)) :
    Calls Tryd.prog 37 #[.string a0] w fun e w' => ∃ v0_ : Value, e = .returned (.tuple #[v0_, .bool r2]) ∧ Kd.R k81 81 w' w.heap.size (fun _ => True) v0_ r1 ∧ Below w.heap.size w w' := by
  have hu81 := Tryd.underlying81
  have HB := Aside0.mk (Below.refl w.heap.size w)
  have H : (if ((a0.size : Int) % 3) = 0 then (spec_ParseKindTests.j0 k a0 (decide ((a0.size : Int) > 120))) else (spec_ParseKindTests.j0 k a0 true)) = some (r1, r2) := h
  clear h
  have HC2 := Aside0.mk H
  clear H
  go_enter Tryd.func37, Tryd.ntmps37
  go_upto_region 1 with (fail)
  go_cut [14] (fun v14 wc => ∃ (kq : Nat) (x14_1 : Bool), v14 = .bool x14_1 ∧ Aside0 (spec_ParseKindTests.j0 kq a0 x14_1 = some (r1, r2)) ∧ Aside0 (kq ≤ k) ∧ Aside0 (Below w.heap.size w wc))
  case first =>
    have H := HC2.out
    clear HC2
    by_cases c3 : ((a0.size : Int) % 3) = 0
    · rw [if_pos c3] at H
      have c3b0 : (((a0.size : Int) % 3) == 0) = true := beq_iff_eq.mpr c3
      have c3b1 : (((a0.size : Int) % 3) != 0) = false := bne_eq_false_iff_eq.mpr c3
      clear c3
      (first | rw [c3b0] | (simp only [i64_w, i32_w]; rw [c3b0]) | skip)
      have H' := Aside0.mk H
      clear H
      go_wp2
      go_meet
      case rel => exact ⟨_, (decide ((a0.size : Int) > 120)), (by first | rfl | (simp; done) | (simp [*]; done)), H', ⟨by first | omega | exact Nat.le_refl _⟩, ⟨by repeat (first | (with_reducible first | exact HB.out | apply below_alloc | apply pw_below_drewN | apply below_drew1) | exact HB.out)⟩⟩
    · rw [if_neg c3] at H
      have c3b0 : (((a0.size : Int) % 3) == 0) = false := beq_eq_false_iff_ne.mpr c3
      have c3b1 : (((a0.size : Int) % 3) != 0) = true := bne_iff_ne.mpr c3
      (first | rw [c3b0] | (simp only [i64_w, i32_w]; rw [c3b0]) | skip)
      have H' := Aside0.mk H
      clear H
      go_wp2
      go_meet
      case rel => exact ⟨_, (true), (by first | rfl | (simp; done) | (simp [*]; done)), H', ⟨by first | omega | exact Nat.le_refl _⟩, ⟨by repeat (first | (with_reducible first | exact HB.out | apply below_alloc | apply pw_below_drewN | apply below_drew1) | exact HB.out)⟩⟩
  case rest =>
    clear HC2
    try clear p2
    try clear c3
    try clear c3b0
    try clear c3b1
    obtain ⟨kq, x14_1, rfl, HA, HJ1, HB⟩ := hcut
    cases kq with
    | zero => exact absurd HA.out (by simp [spec_ParseKindTests.j0])
    | succ kj1 =>
      have H := HA.out
      clear HA
      simp only [spec_ParseKindTests.j0] at H
      by_cases c4 : x14_1 = true
      · subst c4
        have H1 : (some (([] : List (S81)), false)) = some (r1, r2) := by rw [if_pos rfl] at H; exact H
        clear H
        have H := H1
        clear H1
        simp only [Option.some.injEq, Prod.mk.injEq] at H
        obtain ⟨rfl, rfl⟩ := H
        go_wp2
        go_ret2
        exact ⟨_, by first | rfl | (simp [errW_none, errW_some] <;> rfl) | (simp [*, errW_none, errW_some] <;> rfl), by first | exact Kd.R_nil _ _ _ _ _ | exact Kd.N_nil _ _ _ _ _ | exact Kd.V_nil _ _ _ _ _ | exact Kd.Q_nil _ _ _ _ _ | exact Kd.S_nil _ _ _ _ _, by repeat (first | (with_reducible first | exact HB.out | apply below_alloc | apply pw_below_drewN | apply below_drew1) | exact HB.out)⟩
      · replace c4 := Bool.eq_false_iff.mpr c4
        subst c4
        have H1 : (spec_ParseKindTests.l0 kj1 a0 ([] : List (S81)) 0) = some (r1, r2) := by rw [if_neg (show ¬ (false = true) by decide)] at H; exact H
        clear H
        have H := H1
        clear H1
        have H' := Aside0.mk H
        clear H
        go_wp2
        go_loopg [4, 5] kj1 (fun kq v4 v5 w' => ∃ (x4_2 : List (S81)) (x5_2 : Int), v5 = .int .i64 x5_2 ∧ Aside0 (spec_ParseKindTests.l0 kq a0 x4_2 x5_2 = some (r1, r2)) ∧ Aside0 (kq ≤ kj1) ∧ Aside0 (Kd.R k81 81 w' w.heap.size (fun _ => True) v4 x4_2) ∧ Aside0 (Below w.heap.size w w'))
        case atStart => exact ⟨(([] : List (S81))), (0), (by first | rfl | (simp; done) | (simp [*]; done)), H', ⟨Nat.le_refl _⟩, ⟨by first | exact Kd.R_nil _ _ _ _ _ | exact Kd.N_nil _ _ _ _ _ | exact Kd.V_nil _ _ _ _ _ | exact Kd.Q_nil _ _ _ _ _ | exact Kd.S_nil _ _ _ _ _⟩, ⟨by repeat (first | (with_reducible first | exact HB.out | apply below_alloc | apply pw_below_drewN | apply below_drew1) | exact HB.out)⟩⟩
        case round =>
          clear H'
          try clear p2
          try clear c3
          try clear c3b0
          try clear c3b1
          try clear c4
          try clear p2
          obtain ⟨x4_2, x5_2, rfl, HA, HK2, HO_4, HB⟩ := hrel
          cases gk with
          | zero => exact absurd HA.out (by simp [spec_ParseKindTests.l0])
          | succ k2 =>
            have H := HA.out
            clear HA
            simp only [spec_ParseKindTests.l0] at H
            by_cases c5 : x5_2 < (a0.size : Int)
            · rw [if_pos c5] at H
              have c5b0 : decide (x5_2 < (a0.size : Int)) = true := decide_eq_true c5
              clear c5
              by_cases c6 : 0 ≤ x5_2
              · rw [if_pos c6] at H
                have c6b0 : decide (0 ≤ x5_2) = true := decide_eq_true c6
                clear c6
                obtain ⟨ji8, hji8⟩ : ∃ j_ : Int, (wrap64 (x5_2 + 1)) = j_ := ⟨_, rfl⟩
                replace H : (if 0 ≤ (ji8) then (if (ji8) < (a0.size : Int) then (if 0 ≤ (wrap64 (x5_2 + 2)) then (if (wrap64 (x5_2 + 2)) < (a0.size : Int) then (if x4_2.length < 5864062014805 then (spec_ParseKindTests.l0 k2 a0 (x4_2 ++ [(⟨((bt a0 x5_2) == 115), wrap64 ((wrap64 (bt a0 (ji8))) - 48), ((bt a0 (wrap64 (x5_2 + 2))) == 33)⟩ : S81)]) (wrap64 (x5_2 + 3))) else (none)) else (none)) else (none)) else (none)) else (none)) = some (r1, r2) := by first | (rw [hji8] at H; exact H) | (simp only [hji8] at H ⊢; exact H)
                have hji8w : (IntKind.i64.wrap (x5_2 + 1)) = ji8 := (i64_w _).trans hji8
                by_cases c9 : 0 ≤ (ji8)
                · rw [if_pos c9] at H
                  have c9b0 : decide (0 ≤ (ji8)) = true := decide_eq_true c9
                  clear c9
                  by_cases c10 : (ji8) < (a0.size : Int)
                  · rw [if_pos c10] at H
                    have c10b0 : decide ((ji8) < (a0.size : Int)) = true := decide_eq_true c10
                    clear c10
                    obtain ⟨ji12, hji12⟩ : ∃ j_ : Int, (wrap64 (x5_2 + 2)) = j_ := ⟨_, rfl⟩
                    replace H : (if 0 ≤ (ji12) then (if (ji12) < (a0.size : Int) then (if x4_2.length < 5864062014805 then (spec_ParseKindTests.l0 k2 a0 (x4_2 ++ [(⟨((bt a0 x5_2) == 115), wrap64 ((wrap64 (bt a0 (ji8))) - 48), ((bt a0 (ji12)) == 33)⟩ : S81)]) (wrap64 (x5_2 + 3))) else (none)) else (none)) else (none)) = some (r1, r2) := by first | (rw [hji12] at H; exact H) | (simp only [hji12] at H ⊢; exact H)
                    have hji12w : (IntKind.i64.wrap (x5_2 + 2)) = ji12 := (i64_w _).trans hji12
                    by_cases c13 : 0 ≤ (ji12)
                    · rw [if_pos c13] at H
                      have c13b0 : decide (0 ≤ (ji12)) = true := decide_eq_true c13
                      clear c13
                      by_cases c14 : (ji12) < (a0.size : Int)
                      · rw [if_pos c14] at H
                        have c14b0 : decide ((ji12) < (a0.size : Int)) = true := decide_eq_true c14
                        clear c14
                        by_cases c16 : x4_2.length < 5864062014805
                        · rw [if_pos c16] at H
                          have LMc16 := Aside0.mk c16
                          clear c16
                          obtain ⟨y119, hy119⟩ : ∃ y_ : List (S81), y_ = (x4_2 ++ [(⟨((bt a0 x5_2) == 115), wrap64 ((wrap64 (bt a0 (ji8))) - 48), ((bt a0 (ji12)) == 33)⟩ : S81)]) := ⟨_, rfl⟩
                          replace H : (spec_ParseKindTests.l0 k2 a0 y119 (wrap64 (x5_2 + 3))) = some (r1, r2) := by first | (rw [hy119]; with_reducible exact H) | (have H2_ := (Option.bind_some _ _).symm.trans H; rw [hy119]; with_reducible exact H2_) | (have H2_ := (Option.bind_some _ _).symm.trans H; with_reducible exact H2_) | with_reducible exact H | (rw [hy119]; exact H) | exact H
                          have Ny119 := Aside0.mk hy119
                          clear hy119
                          have H' := Aside0.mk H
                          clear H
                          try go_wp2
                          have n0_ := Aside0.mk (Kd.R_drew HO_4.out)
                          have n1_ := Aside0.mk (below_drew1 HB.out)
                          clear HO_4
                          clear HB
                          have HO_4 := n0_
                          have HB := n1_
                          clear n0_ n1_
                          have p7 : 0 ≤ (x5_2 : Int) := of_decide_eq_true (by first | (with_reducible assumption) | assumption)
                          have q7 : x5_2 < (a0.size : Int) := of_decide_eq_true (by first | (with_reducible assumption) | assumption)
                          have hx7 := bt_at a0 x5_2
                          replace p7 := eq_true p7
                          replace q7 := eq_true q7
                          have p11 : 0 ≤ ((ji8) : Int) := of_decide_eq_true (by first | (with_reducible assumption) | assumption)
                          have q11 : (ji8) < (a0.size : Int) := of_decide_eq_true (by first | (with_reducible assumption) | assumption)
                          have hx11 := bt_at a0 (ji8)
                          replace p11 := eq_true p11
                          replace q11 := eq_true q11
                          have p15 : 0 ≤ ((ji12) : Int) := of_decide_eq_true (by first | (with_reducible assumption) | assumption)
                          have q15 : (ji12) < (a0.size : Int) := of_decide_eq_true (by first | (with_reducible assumption) | assumption)
                          have hx15 := bt_at a0 (ji12)
                          replace p15 := eq_true p15
                          replace q15 := eq_true q15
                          refine start_ (n := 20) (S := fun w' => True) (ds := []) #[false, false, false, false, false, false, false, false, false, false, false, false, false, false, false, false, false, false, false, false] (by kernel_rfl) rfl rfl trivial (fun hHeld => ?_); refine with_tabW spec_ParseKindTests.tab7 spec_ParseKindTests.bits7 (fun HT_ HW_ => ?_)
                          generalize wr.drew = w17 at HO_4 HB hHeld ⊢
                          refine pure_ (i := 0) (N := some 21) (v := ?_) (a' := ?_) #[true, false, false, false, false, false, false, false, false, false, false, false, false, false, false, false, false, false, false, false] rfl rfl (any_of HT_.out (by kernel_rfl)) (fun _ _ _ h => h) (Or.inl ⟨by rfl, ?_⟩) ?_ ?_
                          rotate_left
                          · intro w'
                            go_simp
                            with_reducible rfl
                          rotate_left
                          · simp only [Act.put, List.setIfInBounds_toArray, List.set_cons_zero, List.set_cons_succ, i64_w, i32_w]
                            rfl
                          refine pure_ (i := 1) (N := some 22) (v := ?_) (a' := ?_) #[true, true, false, false, false, false, false, false, false, false, false, false, false, false, false, false, false, false, false, false] rfl rfl (any_of HT_.out (by kernel_rfl)) (fun _ _ _ h => h) (Or.inl ⟨by rfl, ?_⟩) ?_ ?_
                          rotate_left
                          · intro w'
                            go_simp
                            with_reducible rfl
                          rotate_left
                          · simp only [Act.put, List.setIfInBounds_toArray, List.set_cons_zero, List.set_cons_succ, i64_w, i32_w]
                            rfl
                          refine pure_ (i := 2) (N := some 23) (v := ?_) (a' := ?_) #[true, true, true, false, false, false, false, false, false, false, false, false, false, false, false, false, false, false, false, false] rfl rfl (any_of HT_.out (by kernel_rfl)) (fun _ _ _ h => h) (Or.inl ⟨by rfl, ?_⟩) ?_ ?_
                          rotate_left
                          · intro w'
                            go_simp
                            with_reducible rfl
                          rotate_left
                          · simp only [Act.put, List.setIfInBounds_toArray, List.set_cons_zero, List.set_cons_succ, i64_w, i32_w]
                            rfl
                          refine pure_ (i := 5) (N := some 26) (v := ?_) (a' := ?_) #[true, true, true, false, false, true, false, false, false, false, false, false, false, false, false, false, false, false, false, false] rfl rfl (any_of HT_.out (by kernel_rfl)) (fun _ _ _ h => h) (Or.inl ⟨by rfl, ?_⟩) ?_ ?_
                          rotate_left
                          · intro w'
                            go_simp
                            with_reducible rfl
                          rotate_left
                          · simp only [Act.put, List.setIfInBounds_toArray, List.set_cons_zero, List.set_cons_succ, i64_w, i32_w]
                            rfl
                          refine pure_ (i := 6) (N := some 27) (v := ?_) (a' := ?_) #[true, true, true, false, false, true, true, false, false, false, false, false, false, false, false, false, false, false, false, false] rfl rfl (any_of HT_.out (by kernel_rfl)) (fun _ _ _ h => h) (Or.inl ⟨by rfl, ?_⟩) ?_ ?_
                          rotate_left
                          · intro w'
                            go_simp
                            with_reducible rfl
                          rotate_left
                          · simp only [Act.put, List.setIfInBounds_toArray, List.set_cons_zero, List.set_cons_succ, i64_w, i32_w]
                            rfl
                          refine pure_ (i := 7) (N := some 28) (v := ?_) (a' := ?_) #[true, true, true, false, false, true, true, true, false, false, false, false, false, false, false, false, false, false, false, false] rfl rfl (any_of HT_.out (by kernel_rfl)) (fun _ _ _ h => h) (Or.inl ⟨by rfl, ?_⟩) ?_ ?_
                          rotate_left
                          · intro w'
                            go_simp
                            with_reducible rfl
                          rotate_left
                          · simp only [Act.put, List.setIfInBounds_toArray, List.set_cons_zero, List.set_cons_succ, i64_w, i32_w]
                            rfl
                          refine pure_ (i := 11) (N := some 32) (v := ?_) (a' := ?_) #[true, true, true, false, false, true, true, true, false, false, false, true, false, false, false, false, false, false, false, false] rfl rfl (any_of HT_.out (by kernel_rfl)) (fun _ _ _ h => h) (Or.inl ⟨by rfl, ?_⟩) ?_ ?_
                          rotate_left
                          · intro w'
                            go_simp
                            with_reducible rfl
                          rotate_left
                          · simp only [Act.put, List.setIfInBounds_toArray, List.set_cons_zero, List.set_cons_succ, i64_w, i32_w]
                            rfl
                          refine pure_ (i := 12) (N := some 33) (v := ?_) (a' := ?_) #[true, true, true, false, false, true, true, true, false, false, false, true, true, false, false, false, false, false, false, false] rfl rfl (any_of HT_.out (by kernel_rfl)) (fun _ _ _ h => h) (Or.inl ⟨by rfl, ?_⟩) ?_ ?_
                          rotate_left
                          · intro w'
                            go_simp
                            with_reducible rfl
                          rotate_left
                          · simp only [Act.put, List.setIfInBounds_toArray, List.set_cons_zero, List.set_cons_succ, i64_w, i32_w]
                            rfl
                          refine pure_ (i := 13) (N := some 34) (v := ?_) (a' := ?_) #[true, true, true, false, false, true, true, true, false, false, false, true, true, true, false, false, false, false, false, false] rfl rfl (any_of HT_.out (by kernel_rfl)) (fun _ _ _ h => h) (Or.inl ⟨by rfl, ?_⟩) ?_ ?_
                          rotate_left
                          · intro w'
                            go_simp
                            with_reducible rfl
                          rotate_left
                          · simp only [Act.put, List.setIfInBounds_toArray, List.set_cons_zero, List.set_cons_succ, i64_w, i32_w]
                            rfl
                          refine take_ (i := 3) (N := some 24) (v := ?_) (a' := ?_) #[true, true, true, true, false, true, true, true, false, false, false, true, true, true, false, false, false, false, false, false] rfl rfl (take_ofW HT_.out HW_.out (by kernel_rfl)) (fun _ _ _ h => h) (Or.inl ⟨by rfl, ?_⟩) hHeld ?_ ?_
                          rotate_left
                          · intro w' _
                            go_simp
                            with_reducible rfl
                          rotate_left
                          · simp only [Act.put, List.setIfInBounds_toArray, List.set_cons_zero, List.set_cons_succ, i64_w, i32_w]
                            rfl
                          refine pure_ (i := 4) (N := some 25) (v := ?_) (a' := ?_) #[true, true, true, true, true, true, true, true, false, false, false, true, true, true, false, false, false, false, false, false] rfl rfl (any_of HT_.out (by kernel_rfl)) (fun _ _ _ h => h) (Or.inl ⟨by rfl, ?_⟩) ?_ ?_
                          rotate_left
                          · intro w'
                            go_simp
                            with_reducible rfl
                          rotate_left
                          · simp only [Act.put, List.setIfInBounds_toArray, List.set_cons_zero, List.set_cons_succ, i64_w, i32_w]
                            rfl
                          refine take_ (i := 8) (N := some 29) (v := ?_) (a' := ?_) #[true, true, true, true, true, true, true, true, true, false, false, true, true, true, false, false, false, false, false, false] rfl rfl (take_ofW HT_.out HW_.out (by kernel_rfl)) (fun _ _ _ h => h) (Or.inl ⟨by rfl, ?_⟩) hHeld ?_ ?_
                          rotate_left
                          · intro w' _
                            go_simp
                            with_reducible rfl
                          rotate_left
                          · simp only [Act.put, List.setIfInBounds_toArray, List.set_cons_zero, List.set_cons_succ, i64_w, i32_w]
                            rfl
                          refine pure_ (i := 9) (N := some 30) (v := ?_) (a' := ?_) #[true, true, true, true, true, true, true, true, true, true, false, true, true, true, false, false, false, false, false, false] rfl rfl (any_of HT_.out (by kernel_rfl)) (fun _ _ _ h => h) (Or.inl ⟨by rfl, ?_⟩) ?_ ?_
                          rotate_left
                          · intro w'
                            go_simp
                            with_reducible rfl
                          rotate_left
                          · simp only [Act.put, List.setIfInBounds_toArray, List.set_cons_zero, List.set_cons_succ, i64_w, i32_w]
                            rfl
                          refine pure_ (i := 10) (N := some 31) (v := ?_) (a' := ?_) #[true, true, true, true, true, true, true, true, true, true, true, true, true, true, false, false, false, false, false, false] rfl rfl (any_of HT_.out (by kernel_rfl)) (fun _ _ _ h => h) (Or.inl ⟨by rfl, ?_⟩) ?_ ?_
                          rotate_left
                          · intro w'
                            go_simp
                            with_reducible rfl
                          rotate_left
                          · simp only [Act.put, List.setIfInBounds_toArray, List.set_cons_zero, List.set_cons_succ, i64_w, i32_w]
                            rfl
                          refine take_ (i := 14) (N := some 35) (v := ?_) (a' := ?_) #[true, true, true, true, true, true, true, true, true, true, true, true, true, true, true, false, false, false, false, false] rfl rfl (take_ofW HT_.out HW_.out (by kernel_rfl)) (fun _ _ _ h => h) (Or.inl ⟨by rfl, ?_⟩) hHeld ?_ ?_
                          rotate_left
                          · intro w' _
                            go_simp
                            with_reducible rfl
                          rotate_left
                          · simp only [Act.put, List.setIfInBounds_toArray, List.set_cons_zero, List.set_cons_succ, i64_w, i32_w]
                            rfl
                          refine pure_ (i := 15) (N := some 36) (v := ?_) (a' := ?_) #[true, true, true, true, true, true, true, true, true, true, true, true, true, true, true, true, false, false, false, false] rfl rfl (any_of HT_.out (by kernel_rfl)) (fun _ _ _ h => h) (Or.inl ⟨by rfl, ?_⟩) ?_ ?_
                          rotate_left
                          · intro w'
                            go_simp
                            with_reducible rfl
                          rotate_left
                          · simp only [Act.put, List.setIfInBounds_toArray, List.set_cons_zero, List.set_cons_succ, i64_w, i32_w]
                            rfl
                          refine pure_ (i := 16) (N := some 37) (v := ?_) (a' := ?_) #[true, true, true, true, true, true, true, true, true, true, true, true, true, true, true, true, true, false, false, false] rfl rfl (any_of HT_.out (by kernel_rfl)) (fun _ _ _ h => h) (Or.inl ⟨by rfl, ?_⟩) ?_ ?_
                          rotate_left
                          · intro w'
                            go_simp
                            with_reducible rfl
                          rotate_left
                          · simp only [Act.put, List.setIfInBounds_toArray, List.set_cons_zero, List.set_cons_succ, i64_w, i32_w]
                            rfl
                          refine one_ (i := 17) (N := some 38) #[true, true, true, true, true, true, true, true, true, true, true, true, true, true, true, true, true, true, false, false] rfl rfl (one_of HT_.out (by kernel_rfl)) (by decide) (fun K hK => ?_)
                          refine value_ (w1 := ?_) (v := ?_) (by rfl) rfl ?_ ?_
                          rotate_left 2
                          · go_simp
                            constructor
                            · rfl
                            · rfl
                          refine hK.out _ _ trivial (fun hHeld => ?_)
                          clear hK K
                          refine norm_ (a' := ?_) ?_ ?_
                          rotate_left
                          · show Act.put _ (some 38) _ = _
                            simp only [Act.put, List.setIfInBounds_toArray, List.set_cons_zero, List.set_cons_succ, i64_w, i32_w]
                            rfl
                          refine one_ (i := 18) (N := some 39) #[true, true, true, true, true, true, true, true, true, true, true, true, true, true, true, true, true, true, true, false] rfl rfl (one_of HT_.out (by kernel_rfl)) (by decide) (fun K hK => ?_)
                          refine Kd.R_append_step k81 (w0 := w) w.heap.size (by rfl) (.tmp 21) (.tmp 38) 44 81 (.agg #[(.bool false), (.int .i64 0), (.bool false)]) 24 rfl Tryd.underlying44 info81 rfl (by decide) (by omega) u4 x4_2 (⟨((bt a0 x5_2) == 115), wrap64 ((wrap64 (bt a0 (ji8))) - 48), ((bt a0 (ji12)) == 33)⟩ : S81) [.bool ((bt a0 x5_2) == 115), .int .i64 (wrap64 ((wrap64 (bt a0 (ji8))) - 48)), .bool ((bt a0 (ji12)) == 33)] (fun _ => True) (fun _ => False) rfl rfl ?aP (fun _ hk => hk.elim) ?aF ?aO ?aB ?aS ?aL ?_
                          (case aP => exact k81_mkM _ _ _ (⟨((bt a0 x5_2) == 115), wrap64 ((wrap64 (bt a0 (ji8))) - 48), ((bt a0 (ji12)) == 33)⟩ : S81))
                          (case aB => exact (by repeat (first | (with_reducible first | exact HB.out | apply below_alloc | apply pw_below_drewN | apply below_drew1) | exact HB.out)))
                          (case aF => exact (fun _ _ => trivial))
                          (case aO => exact (by (with_reducible repeat (first | apply Kd.R_alloc | apply Kd.R_drewN | apply Kd.R_drew)); exact HO_4.out))
                          (case aS => exact (below_size (by repeat (first | (with_reducible first | exact HB.out | apply below_alloc | apply pw_below_drewN | apply below_drew1) | exact HB.out))))
                          (case aL => have := LMc16.out; omega)
                          intro v120 w18 ho hb hg hat
                          rw [← Ny119.out] at ho
                          have n0_ := Aside0.mk (hb)
                          have n1_ := Aside0.mk (ho)
                          clear HB
                          clear HO_4
                          have HB := n0_
                          have HO121 := n1_
                          clear n0_ n1_
                          clear ho hb hg hat
                          refine hK.out _ _ trivial (fun hHeld => ?_)
                          clear hK K
                          refine norm_ (a' := ?_) ?_ ?_
                          rotate_left
                          · show Act.put _ (some 39) _ = _
                            simp only [Act.put, List.setIfInBounds_toArray, List.set_cons_zero, List.set_cons_succ, i64_w, i32_w]
                            rfl
                          refine pure_ (i := 19) (N := some 4) (v := ?_) (a' := ?_) #[true, true, true, true, true, true, true, true, true, true, true, true, true, true, true, true, true, true, true, true] rfl rfl (any_of HT_.out (by kernel_rfl)) (fun _ _ _ h => h) (Or.inl ⟨by rfl, ?_⟩) ?_ ?_
                          rotate_left
                          · intro w'
                            go_simp
                            with_reducible rfl
                          rotate_left
                          · simp only [Act.put, List.setIfInBounds_toArray, List.set_cons_zero, List.set_cons_succ, i64_w, i32_w]
                            rfl
                          refine done_ (done_of HT_.out (by kernel_rfl)) ?_
                          try go_wp2
                          go_roundg k2
                          case measure => have := HJ1.out; have := HK2.out; omega
                          case rel => exact ⟨(y119), (wrap64 (x5_2 + 3)), (by first | rfl | (simp; done) | (simp [*]; done)), H', ⟨by have := HJ1.out; have := HK2.out; omega⟩, ⟨by (with_reducible repeat (first | apply Kd.R_alloc | apply Kd.R_drewN | apply Kd.R_drew)); exact HO121.out⟩, ⟨by repeat (first | (with_reducible first | exact HB.out | apply below_alloc | apply pw_below_drewN | apply below_drew1) | exact HB.out)⟩⟩
                        · rw [if_neg c16] at H
                          exact absurd H (by simp)
                      · rw [if_neg c14] at H
                        exact absurd H (by simp)
                    · rw [if_neg c13] at H
                      exact absurd H (by simp)
                  · rw [if_neg c10] at H
                    exact absurd H (by simp)
                · rw [if_neg c9] at H
                  exact absurd H (by simp)
              · rw [if_neg c6] at H
                exact absurd H (by simp)
            · rw [if_neg c5] at H
              have c5b0 : decide (x5_2 < (a0.size : Int)) = false := decide_eq_false c5
              clear c5
              replace H := Option.bind_eq_some_iff.mp H
              obtain ⟨t122, A190, H⟩ := H
              replace H : (if t122 = true then ((spec_kiText.f k2 x4_2).bind fun t123 => (if t123.toList = a0.toList then (some (x4_2, true)) else (some (([] : List (S81)), false)))) else (some (([] : List (S81)), false))) = some (r1, r2) := H
              have A19 := Aside0.mk A190
              clear A190
              by_cases c20 : t122 = true
              · subst c20
                have H1 : ((spec_kiText.f k2 x4_2).bind fun t123 => (if t123.toList = a0.toList then (some (x4_2, true)) else (some (([] : List (S81)), false)))) = some (r1, r2) := by rw [if_pos rfl] at H; exact H
                clear H
                have H := H1
                clear H1
                replace H := Option.bind_eq_some_iff.mp H
                obtain ⟨t123, A210, H⟩ := H
                replace H : (if t123.toList = a0.toList then (some (x4_2, true)) else (some (([] : List (S81)), false))) = some (r1, r2) := H
                have A21 := Aside0.mk A210
                clear A210
                by_cases c22 : t123.toList = a0.toList
                · rw [if_pos c22] at H
                  have c22b0 : (t123.toList == a0.toList) = true := beq_iff_eq.mpr c22
                  have c22b1 : (t123.toList != a0.toList) = false := bne_eq_false_iff_eq.mpr c22
                  clear c22
                  simp only [Option.some.injEq, Prod.mk.injEq] at H
                  obtain ⟨rfl, rfl⟩ := H
                  obtain ⟨Ao23, co23, eo23⟩ := Kd.R_slice HO_4.out
                  subst eo23
                  go_wp2_with (first | ((with_reducible refine gate_callee (f := 66) rfl ?_); refine goesL_ (some 41) rfl rfl Tryd.func66 (by kernel_rfl) rfl #[.int .i64 6, .slice Ao23 x4_2.length co23] rfl (by (try simp only [List.map_toArray, List.map_cons, List.map_nil]); first | done | rfl | (simp only [List.length_drop, List.length_take]; rfl)) ?_; (with_reducible refine (spec_kiTests.calls k2 6 _ _ x4_2 true _ ?side1 ?side2 A19.out).mono ?_); (case side1 => repeat (first | exact (Kd.R_reads' HO_4.out).2.2 | (with_reducible refine Kd.C_alloc ?_ _) | (with_reducible refine Kd.C_drewN ?_ _) | (with_reducible refine Kd.C_drew ?_))); (case side2 => exact (Kd.R_reads' HO_4.out).2.1); rintro e w24 ⟨rfl, hb⟩; refine ⟨_, rfl, ?_⟩; have n0_ := Aside0.mk (Kd.R_below (by (with_reducible repeat (first | apply Kd.R_alloc | apply Kd.R_drewN | apply Kd.R_drew)); exact HO_4.out) hb); have n1_ := Aside0.mk (below_step (by repeat (first | (with_reducible first | exact HB.out | apply below_alloc | apply pw_below_drewN | apply below_drew1) | exact HB.out)) hb); clear HO_4; clear HB; have HO_4 := n0_; have HB := n1_; clear n0_ n1_; (try clear hb); (try clear hb2); (try clear hk); (try clear hi)) | (go_at_call 67; (with_reducible refine (spec_kiText.calls k2 _ _ x4_2 t123 _ ?side1 ?side2 A21.out).mono ?_); (case side1 => repeat (first | exact (Kd.R_reads' HO_4.out).2.2 | (with_reducible refine Kd.C_alloc ?_ _) | (with_reducible refine Kd.C_drewN ?_ _) | (with_reducible refine Kd.C_drew ?_))); (case side2 => exact (Kd.R_reads' HO_4.out).2.1); rintro e w25 ⟨rfl, hb⟩; have n0_ := Aside0.mk (Kd.R_below (by (with_reducible repeat (first | apply Kd.R_alloc | apply Kd.R_drewN | apply Kd.R_drew)); exact HO_4.out) hb); have n1_ := Aside0.mk (below_step (by repeat (first | (with_reducible first | exact HB.out | apply below_alloc | apply pw_below_drewN | apply below_drew1) | exact HB.out)) hb); clear HO_4; clear HB; have HO_4 := n0_; have HB := n1_; clear n0_ n1_; (try clear hb); (try clear hb2); (try clear hk); (try clear hi)))
                  go_ret2
                  exact ⟨_, by first | rfl | (simp [errW_none, errW_some] <;> rfl) | (simp [*, errW_none, errW_some] <;> rfl), by (with_reducible repeat (first | apply Kd.R_alloc | apply Kd.R_drewN | apply Kd.R_drew)); exact HO_4.out, by repeat (first | (with_reducible first | exact HB.out | apply below_alloc | apply pw_below_drewN | apply below_drew1) | exact HB.out)⟩
                · rw [if_neg c22] at H
                  have c22b0 : (t123.toList == a0.toList) = false := beq_eq_false_iff_ne.mpr c22
                  have c22b1 : (t123.toList != a0.toList) = true := bne_iff_ne.mpr c22
                  simp only [Option.some.injEq, Prod.mk.injEq] at H
                  obtain ⟨rfl, rfl⟩ := H
                  obtain ⟨Ao26, co26, eo26⟩ := Kd.R_slice HO_4.out
                  subst eo26
                  go_wp2_with (first | ((with_reducible refine gate_callee (f := 66) rfl ?_); refine goesL_ (some 41) rfl rfl Tryd.func66 (by kernel_rfl) rfl #[.int .i64 6, .slice Ao26 x4_2.length co26] rfl (by (try simp only [List.map_toArray, List.map_cons, List.map_nil]); first | done | rfl | (simp only [List.length_drop, List.length_take]; rfl)) ?_; (with_reducible refine (spec_kiTests.calls k2 6 _ _ x4_2 true _ ?side1 ?side2 A19.out).mono ?_); (case side1 => repeat (first | exact (Kd.R_reads' HO_4.out).2.2 | (with_reducible refine Kd.C_alloc ?_ _) | (with_reducible refine Kd.C_drewN ?_ _) | (with_reducible refine Kd.C_drew ?_))); (case side2 => exact (Kd.R_reads' HO_4.out).2.1); rintro e w27 ⟨rfl, hb⟩; refine ⟨_, rfl, ?_⟩; have n0_ := Aside0.mk (Kd.R_below (by (with_reducible repeat (first | apply Kd.R_alloc | apply Kd.R_drewN | apply Kd.R_drew)); exact HO_4.out) hb); have n1_ := Aside0.mk (below_step (by repeat (first | (with_reducible first | exact HB.out | apply below_alloc | apply pw_below_drewN | apply below_drew1) | exact HB.out)) hb); clear HO_4; clear HB; have HO_4 := n0_; have HB := n1_; clear n0_ n1_; (try clear hb); (try clear hb2); (try clear hk); (try clear hi)) | (go_at_call 67; (with_reducible refine (spec_kiText.calls k2 _ _ x4_2 t123 _ ?side1 ?side2 A21.out).mono ?_); (case side1 => repeat (first | exact (Kd.R_reads' HO_4.out).2.2 | (with_reducible refine Kd.C_alloc ?_ _) | (with_reducible refine Kd.C_drewN ?_ _) | (with_reducible refine Kd.C_drew ?_))); (case side2 => exact (Kd.R_reads' HO_4.out).2.1); rintro e w28 ⟨rfl, hb⟩; have n0_ := Aside0.mk (Kd.R_below (by (with_reducible repeat (first | apply Kd.R_alloc | apply Kd.R_drewN | apply Kd.R_drew)); exact HO_4.out) hb); have n1_ := Aside0.mk (below_step (by repeat (first | (with_reducible first | exact HB.out | apply below_alloc | apply pw_below_drewN | apply below_drew1) | exact HB.out)) hb); clear HO_4; clear HB; have HO_4 := n0_; have HB := n1_; clear n0_ n1_; (try clear hb); (try clear hb2); (try clear hk); (try clear hi)))
                  go_ret2
                  exact ⟨_, by first | rfl | (simp [errW_none, errW_some] <;> rfl) | (simp [*, errW_none, errW_some] <;> rfl), by first | exact Kd.R_nil _ _ _ _ _ | exact Kd.N_nil _ _ _ _ _ | exact Kd.V_nil _ _ _ _ _ | exact Kd.Q_nil _ _ _ _ _ | exact Kd.S_nil _ _ _ _ _, by repeat (first | (with_reducible first | exact HB.out | apply below_alloc | apply pw_below_drewN | apply below_drew1) | exact HB.out)⟩
              · replace c20 := Bool.eq_false_iff.mpr c20
                subst c20
                have H1 : (some (([] : List (S81)), false)) = some (r1, r2) := by rw [if_neg (show ¬ (false = true) by decide)] at H; exact H
                clear H
                have H := H1
                clear H1
                simp only [Option.some.injEq, Prod.mk.injEq] at H
                obtain ⟨rfl, rfl⟩ := H
                obtain ⟨Ao29, co29, eo29⟩ := Kd.R_slice HO_4.out
                subst eo29
                go_wp2_with (first | ((with_reducible refine gate_callee (f := 66) rfl ?_); refine goesL_ (some 41) rfl rfl Tryd.func66 (by kernel_rfl) rfl #[.int .i64 6, .slice Ao29 x4_2.length co29] rfl (by (try simp only [List.map_toArray, List.map_cons, List.map_nil]); first | done | rfl | (simp only [List.length_drop, List.length_take]; rfl)) ?_; (with_reducible refine (spec_kiTests.calls k2 6 _ _ x4_2 false _ ?side1 ?side2 A19.out).mono ?_); (case side1 => repeat (first | exact (Kd.R_reads' HO_4.out).2.2 | (with_reducible refine Kd.C_alloc ?_ _) | (with_reducible refine Kd.C_drewN ?_ _) | (with_reducible refine Kd.C_drew ?_))); (case side2 => exact (Kd.R_reads' HO_4.out).2.1); rintro e w30 ⟨rfl, hb⟩; refine ⟨_, rfl, ?_⟩; have n0_ := Aside0.mk (Kd.R_below (by (with_reducible repeat (first | apply Kd.R_alloc | apply Kd.R_drewN | apply Kd.R_drew)); exact HO_4.out) hb); have n1_ := Aside0.mk (below_step (by repeat (first | (with_reducible first | exact HB.out | apply below_alloc | apply pw_below_drewN | apply below_drew1) | exact HB.out)) hb); clear HO_4; clear HB; have HO_4 := n0_; have HB := n1_; clear n0_ n1_; (try clear hb); (try clear hb2); (try clear hk); (try clear hi)))
                go_ret2
                exact ⟨_, by first | rfl | (simp [errW_none, errW_some] <;> rfl) | (simp [*, errW_none, errW_some] <;> rfl), by first | exact Kd.R_nil _ _ _ _ _ | exact Kd.N_nil _ _ _ _ _ | exact Kd.V_nil _ _ _ _ _ | exact Kd.Q_nil _ _ _ _ _ | exact Kd.S_nil _ _ _ _ _, by repeat (first | (with_reducible first | exact HB.out | apply below_alloc | apply pw_below_drewN | apply below_drew1) | exact HB.out)⟩

/-! ### impl_AreKindTests: function 70 -/
theorem rowKind_of {w : World} {A : Option Addr} {l : List S81} (h : Kd.C k81 w A l.length l) : Hand.RowKind w A (l.map fun x => (x.f0, x.f1, x.f2)) := by
  refine ⟨by rw [List.length_map]; exact Kd.C_max h, fun h0 => ?_⟩
  rw [List.length_map] at h0
  obtain ⟨ad, e, hc⟩ := h.2.2 h0
  refine ⟨ad, e, fun j hj i v hi => ?_⟩
  rw [List.length_map] at hj
  obtain ⟨c, _, hK, hcell⟩ := hc j l[j] (List.getElem?_eq_getElem hj)
  obtain rfl := k81_open hK
  have e2 : (l.map fun x => (x.f0, x.f1, x.f2))[j]! = (l[j].f0, l[j].f1, l[j].f2) := by rw [List.getElem!_eq_getElem?_getD, List.getElem?_map, List.getElem?_eq_getElem hj]; rfl
  rw [e2] at hi
  exact hcell i v hi
def impl_AreKindTests.f (a0 : Int) (l1 : List (S81)) : Option (Bool) := some (Hand.aKind a0 (l1.map fun x => (x.f0, x.f1, x.f2)))
theorem impl_AreKindTests.calls (a0 : Int) (A1 : Option Addr) (c1 : Nat) (l1 : List (S81)) (r : Bool) (w : World) (hr1 : Kd.C k81 w A1 l1.length l1) (hc1 : l1.length ≤ c1) (h : impl_AreKindTests.f a0 l1 = some r) :
    Calls Tryd.prog 70 #[.int .i64 a0, .slice A1 l1.length c1] w fun e w' => e = .returned (.bool r) ∧ Below w.heap.size w w' := by
  obtain rfl := Option.some.inj h
  have hc := Hand.areKind A1 c1 (l1.map fun x => (x.f0, x.f1, x.f2)) a0 w (rowKind_of hr1)
  rw [List.length_map] at hc
  exact hc

/-! ### impl_kindTestsText: function 71 -/
theorem aKind_parts {b : Int} {zs : List (Bool × Int × Bool)} (h : Hand.aKind b zs = true) (hb : b ≤ 1000) : zs.length ≤ 1000 ∧ ∀ (j : Nat) (h : j < zs.length), 0 ≤ zs[j].2.1 ∧ zs[j].2.1 ≤ 1000 := by
  unfold Hand.aKind at h
  rw [Bool.and_eq_true, Bool.and_eq_true, decide_eq_true_eq] at h
  obtain ⟨⟨h1, h2⟩, h3⟩ := h
  refine ⟨by omega, fun j hj => ?_⟩
  rw [Bool.not_eq_true', List.any_eq_false] at h3
  have h4 := h3 zs[j] (List.getElem_mem hj)
  have h5 : Hand.inn zs[j].2.1 1 b = true := by simpa using h4
  unfold Hand.inn at h5
  simp at h5
  omega
def impl_kindTestsText.f (l0 : List (S81)) : Option (ByteArray) := if Hand.aKind 6 (l0.map fun x => (x.f0, x.f1, x.f2)) = true then some (⟨(Hand.kindsT (l0.map fun x => (x.f0, x.f1, x.f2))).toArray⟩ : ByteArray) else none
theorem impl_kindTestsText.calls (A0 : Option Addr) (c0 : Nat) (l0 : List (S81)) (r : ByteArray) (w : World) (hr0 : Kd.C k81 w A0 l0.length l0) (hc0 : l0.length ≤ c0) (h : impl_kindTestsText.f l0 = some r) (ht_ : Hand.Laid w) :
    Calls Tryd.prog 71 #[.slice A0 l0.length c0] w fun e w' => e = .returned (.string r) ∧ Below w.heap.size w w' := by
  unfold impl_kindTestsText.f at h
  split at h
  · rename_i hg
    obtain rfl := Option.some.inj h
    have hp := aKind_parts hg (by omega)
    have hc := Hand.kindTestsText_calls A0 c0 (l0.map fun x => (x.f0, x.f1, x.f2)) w (rowKind_of hr0) hp.1 hp.2 ht_.tab
    rw [List.length_map] at hc
    exact hc
  · cases h

/-! ### strings_IndexAny: function 73 -/
def strings_IndexAny.f (a0 : ByteArray) (a1 : ByteArray) : Option (Int) := if a0.size ≤ 1000000 ∧ a1.data.toList = Hand.signsL then some (Lib.indexAny a0.data.toList Hand.signsL) else none
theorem strings_IndexAny.calls (a0 : ByteArray) (a1 : ByteArray) (r : Int) (w : World) (h : strings_IndexAny.f a0 a1 = some r) :
    Calls Tryd.prog 73 #[.string a0, .string a1] w fun e w' => e = .returned (.int .i64 r) ∧ Below w.heap.size w w' := by
  unfold strings_IndexAny.f at h
  split at h
  · rename_i h1
    obtain rfl := Option.some.inj h
    have e : a1 = Hand.signs := by
      apply ByteArray.ext
      apply Array.toList_inj.1
      exact h1.2
    subst e
    exact Hand.indexAny_calls a0 w h1.1
  · cases h

/-! ### strconv_Atoi: function 74 -/
/-- How the library reads a number: the number, and whether there is an error. -/
def atoiPair (l : List UInt8) : Int × Option Int := match Lib.atoiAll l with
  | .ok v => (v, none)
  | _ => (0, some 0)
def strconv_Atoi.f (a0 : ByteArray) : Option (Int × Option Int) := if a0.size ≤ 1000000 then some (atoiPair a0.data.toList) else none
theorem strconv_Atoi.callsN (a0 : ByteArray) (r1 : Int) (w : World) (h : strconv_Atoi.f a0 = some (r1, none)) (ht_ : Hand.Laid w) :
    Calls Tryd.prog 74 #[.string a0] w fun e w' => e = .returned (.tuple #[.int .i64 r1, errW none]) ∧ Below w.heap.size w w' := by
  unfold strconv_Atoi.f at h
  split at h
  · rename_i hs
    have e := Option.some.inj h
    unfold atoiPair at e
    rcases ha : Lib.atoiAll a0.data.toList with v | _ | _
    · rw [ha] at e
      obtain rfl : v = r1 := congrArg Prod.fst e
      rw [errW_none]
      exact Hand.atoi_ok a0 hs v ha w
    · rw [ha] at e; cases congrArg Prod.snd e
    · rw [ha] at e; cases congrArg Prod.snd e
  · cases h
theorem strconv_Atoi.callsE (a0 : ByteArray) (r1 : Int) (q : Int) (w : World) (h : strconv_Atoi.f a0 = some (r1, some q)) (ht_ : Hand.Laid w) :
    Calls Tryd.prog 74 #[.string a0] w fun e w' => ∃ (n : Int) (N : Nat), e = .returned (.tuple #[.int .i64 n, .iface 137 (.pointer (some ⟨N, 0, none⟩))]) ∧ Below w.heap.size w w' := by
  unfold strconv_Atoi.f at h
  split at h
  · rename_i hs
    have e := Option.some.inj h
    unfold atoiPair at e
    refine Hand.atoi_no a0 hs (fun v hv => ?_) w ht_
    rw [hv] at e
    cases congrArg Prod.snd e
  · cases h

end Go.Proofs.YtbgmhdlmhncdcaaDoor.QFnExactParseKindTests
