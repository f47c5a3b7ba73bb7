/- The program's newReaches returns a pointer to a new table whose cell for t tests and e eggs holds how many floors they reach (at most one more than the greatest reach); no conditions. -/
import Derived.Test.YtnbimnnocnhggaaProg
import Derived.KernelRfl
import Derived.WalkKit
import Derived.Lib.Hide
import Derived.LoopTactic
import Derived.Below
import Derived.BigRegion
import Derived.BigQuiet
import Derived.Deep.LoopGhost
import Derived.Deep.QuietTactic
namespace Go.Proofs.Ytnbimnnocnhggaa.Hand
open Go Go.Proofs Go.RowKit
set_option maxRecDepth 100000

/-- How many floors t tests with e eggs reach, at most 1000000001. -/
def reach : Nat → Nat → Int
  | 0, _ => 0
  | _ + 1, 0 => 0
  | t + 1, e + 1 => min 1000000001 (reach t e + reach t (e + 1) + 1)
theorem reach_zero (e : Nat) : reach 0 e = 0 := by cases e <;> rfl
theorem reach_none (t : Nat) : reach t 0 = 0 := by cases t <;> rfl
theorem reach_bd (t : Nat) : ∀ e, 0 ≤ reach t e ∧ reach t e ≤ 1000000001 := by
  induction t with
  | zero => intro e; simp [reach_zero]
  | succ t ih =>
    intro e
    cases e with
    | zero => simp [reach]
    | succ e => have := ih e; have := ih (e + 1); simp only [reach]; omega
/-- The table when its first n cells are filled. -/
def tab (n off : Nat) : Int := if off < n then reach (off / 11) (off % 11) else 0
theorem tab_bd (n off : Nat) : 0 ≤ tab n off ∧ tab n off ≤ 1000000001 := by
  unfold tab; split
  · exact reach_bd _ _
  · omega

structure Inv (w wr : World) (n : Nat) : Prop where
  below : Below w.heap.size w wr
  size : w.heap.size < wr.heap.size
  cell : ∀ off, off < 11011 → wr.cell? ⟨w.heap.size, off, none⟩ = some (.int .i64 (tab n off))
  free : ∀ off, off < 11011 → wr.frozen? ⟨w.heap.size, off, none⟩ = false

theorem zero61 : Try.zeroCells61 = Array.replicate 11011 (.int .i64 0) := by kernel_rfl
theorem inv_start (w : World) : Inv w (w.alloc (.cells Try.zeroCells61 61)) (1 * 11) := by
  refine ⟨(Below.refl _ _).alloc (Nat.le_refl _) _, by simp, fun off h => ?_, fun off h => by simp⟩
  rw [World.cell?_alloc_new, zero61]
  have : tab (1 * 11) off = 0 := by
    unfold tab
    by_cases ho : off < 1 * 11
    · rw [if_pos ho, show off / 11 = 0 by omega, reach_zero]
    · rw [if_neg ho]
  simp [this, h]

theorem inv_next {w wr : World} {n : Nat} (h : Inv w wr (n * 11)) : Inv w wr (n * 11 + 1) := by
  refine ⟨h.below, h.size, fun off ho => ?_, h.free⟩
  rw [h.cell off ho]
  have : tab (n * 11) off = tab (n * 11 + 1) off := by
    unfold tab
    by_cases h1 : off < n * 11
    · rw [if_pos h1, if_pos (by omega)]
    · rw [if_neg h1]
      by_cases h2 : off < n * 11 + 1
      · rw [if_pos h2, show off % 11 = 0 by omega, reach_none]
      · rw [if_neg h2]
  rw [this]

theorem inv_step {w wr : World} {n m : Nat} (h : Inv w wr (n * 11 + m)) (h1 : 1 ≤ n) (h2 : n ≤ 1000) (h3 : 1 ≤ m) (h4 : m ≤ 10) {X Y : Int}
    (hX : tab (n * 11 + m) ((n - 1) * 11 + (m - 1)) = X) (hY : tab (n * 11 + m) ((n - 1) * 11 + m) = Y) :
    Inv w (wr.setCell ⟨w.heap.size, n * 11 + m, none⟩ (.int .i64 (if X + Y + 1 < 1000000001 then X + Y + 1 else 1000000001))).drew (n * 11 + (m + 1)) := by
  refine ⟨(h.below.setCell (Nat.le_refl _) _).drew, by simpa using h.size, fun off ho => ?_, fun off ho => ?_⟩
  · rw [World.cell?_drew]
    by_cases he : off = n * 11 + m
    · subst he
      rw [World.cell?_setCell_same _ _ _ (h.cell _ ho)]
      have e1 : tab (n * 11 + (m + 1)) (n * 11 + m) = reach n m := by
        unfold tab; rw [if_pos (by omega), show (n * 11 + m) / 11 = n by omega, show (n * 11 + m) % 11 = m by omega]
      have e2 : X = reach (n - 1) (m - 1) := by
        rw [← hX]; unfold tab; rw [if_pos (by omega), show ((n - 1) * 11 + (m - 1)) / 11 = n - 1 by omega, show ((n - 1) * 11 + (m - 1)) % 11 = m - 1 by omega]
      have e3 : Y = reach (n - 1) m := by
        rw [← hY]; unfold tab; rw [if_pos (by omega), show ((n - 1) * 11 + m) / 11 = n - 1 by omega, show ((n - 1) * 11 + m) % 11 = m by omega]
      obtain ⟨n', rfl⟩ : ∃ k, n = k + 1 := ⟨n - 1, by omega⟩
      obtain ⟨m', rfl⟩ : ∃ k, m = k + 1 := ⟨m - 1, by omega⟩
      simp only [Nat.add_sub_cancel] at e2 e3
      rw [e1, e2, e3]
      simp only [reach]
      congr 2
      split <;> omega
    · rw [World.cell?_setCell_other _ _ _ _ (by simp <;> omega), h.cell off ho]
      have : tab (n * 11 + m) off = tab (n * 11 + (m + 1)) off := by
        unfold tab
        by_cases h5 : off < n * 11 + m
        · rw [if_pos h5, if_pos (by omega)]
        · rw [if_neg h5, if_neg (by omega)]
      rw [this]
  · have := h.free off ho
    simpa using this

/-- What the table holds. -/
structure Tab (w : World) (b : Nat) : Prop where
  cell : ∀ t e, t ≤ 1000 → e ≤ 10 → w.cell? ⟨b, t * 11 + e, none⟩ = some (.int .i64 (reach t e))
theorem Tab.below {w w' : World} {b : Nat} (h : Tab w b) (k : Below w.heap.size w w') (hb : b < w.heap.size) : Tab w' b :=
  ⟨fun t e ht he => by rw [k.cell (p := ⟨b, t * 11 + e, none⟩) hb]; exact h.cell t e ht he⟩

theorem inv_tab {w wr : World} (h : Inv w wr (1001 * 11)) : Tab wr w.heap.size := by
  refine ⟨fun t e ht he => ?_⟩
  rw [h.cell _ (by omega)]
  unfold tab
  rw [if_pos (by omega), show (t * 11 + e) / 11 = t by omega, show (t * 11 + e) % 11 = e by omega]

set_option maxHeartbeats 400000 in
theorem newReaches_calls (w : World) : Calls Try.prog 50 #[] w fun e w' => e = .returned (.pointer (some ⟨w.heap.size, 0, none⟩)) ∧ Tab w' w.heap.size ∧ w.heap.size < w'.heap.size ∧ Below w.heap.size w w' := by
  have HI := inv_start w
  go_enter Try.func50, Try.ntmps50
  go_wp2_with fail
  generalize w.alloc (.cells Try.zeroCells61 61) = w0 at *
  go_loopw [2] (fun t wr => ∃ n : Nat, 1 ≤ n ∧ n ≤ 1001 ∧ t = .int .i64 n ∧ Inv w wr (n * 11)) (fun t _ => (1001 - (intOf t).toNat))
  case atStart => exact ⟨1, by omega, by omega, rfl, HI⟩
  case round =>
    clear HI
    obtain ⟨n, h1, h2, rfl, HI⟩ := hrel
    obtain ⟨wo, rfl⟩ : ∃ wo : World, wo = wr := ⟨_, rfl⟩
    by_cases hlt : n ≤ 1000
    · go_wp2_with fail
      go_loopw [3] (fun t wr => ∃ m : Nat, 1 ≤ m ∧ m ≤ 11 ∧ t = .int .i64 m ∧ Inv w wr (n * 11 + m)) (fun t _ => (11 - (intOf t).toNat))
      case atStart => exact ⟨1, by omega, by omega, rfl, inv_next HI⟩
      case round =>
        clear HI
        obtain ⟨m, h3, h4, rfl, HI⟩ := hrel
        by_cases hm : m ≤ 10
        · have c1 := HI.cell ((n - 1) * 11 + (m - 1)) (by omega)
          have c2 := HI.cell ((n - 1) * 11 + m) (by omega)
          have c3 := HI.cell (n * 11 + m) (by omega)
          have f1 := HI.free (n * 11 + m) (by omega)
          obtain ⟨b10, b11⟩ := tab_bd (n * 11 + m) ((n - 1) * 11 + (m - 1))
          obtain ⟨b20, b21⟩ := tab_bd (n * 11 + m) ((n - 1) * 11 + m)
          have HI' := Lib.hid HI
          clear HI
          generalize hX : tab (n * 11 + m) ((n - 1) * 11 + (m - 1)) = X at *
          generalize hY : tab (n * 11 + m) ((n - 1) * 11 + m) = Y at *
          generalize hZ : tab (n * 11 + m) (n * 11 + m) = Z at *
          have HX := Lib.hid hX
          have HY := Lib.hid hY
          clear hX hY hZ
          go_wp2_with fail
          go_region
          go_wp2_with fail
          exact ⟨⟨m + 1, by omega, by omega, by go_num, inv_step HI'.out h1 hlt h3 hm HX.out HY.out⟩, by simp [intOf]; omega⟩
        · obtain rfl : m = 11 := by omega
          go_wp2_with fail
          exact ⟨⟨n + 1, by omega, by omega, by go_num, by rw [show (n + 1) * 11 = n * 11 + 11 by omega]; exact HI⟩, by simp [intOf]; omega⟩
    · obtain rfl : n = 1001 := by omega
      have HI' := Lib.hid HI
      clear HI
      go_wp2_with fail
      go_ret
      exact ⟨rfl, inv_tab HI'.out, HI'.out.size, HI'.out.below⟩
#print axioms newReaches_calls
end Go.Proofs.Ytnbimnnocnhggaa.Hand
