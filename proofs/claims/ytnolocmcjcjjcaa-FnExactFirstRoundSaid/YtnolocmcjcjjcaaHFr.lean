/- The program's table of rounds (its number of hands too): its cell for t rounds and e eggs holds how many floors they cover; no conditions. -/
import Derived.Test.YtnolocmcjcjjcaaProg
import Derived.KernelRfl
import Derived.WalkKit
import Derived.Lib.Hide
import Derived.LoopTactic
import Derived.Below
import Derived.BigRegion
import Derived.BigQuiet
import Derived.Deep.LoopGhost
import Derived.Deep.QuietTactic
import Derived.StillTailTactics
namespace Go.Proofs.Ytnolocmcjcjjcaa.Fr
open Go Go.Proofs Go.RowKit
set_option maxRecDepth 100000
set_option linter.unusedVariables false

/-- The sum of the first so many values. -/
def sumD (f : Nat → Int) : Nat → Int
  | 0 => 0
  | k + 1 => sumD f k + f k
theorem sumD_bd (f : Nat → Int) (hf : ∀ j, 0 ≤ f j ∧ f j ≤ 1000000000) : ∀ k, 0 ≤ sumD f k ∧ sumD f k ≤ 1000000000 * k
  | 0 => by simp [sumD]
  | k + 1 => by have := sumD_bd f hf k; have := hf k; simp only [sumD]; omega
theorem sumD_congr (f g : Nat → Int) : ∀ k, (∀ j, j < k → f j = g j) → sumD f k = sumD g k
  | 0, _ => rfl
  | k + 1, h => by simp only [sumD]; rw [sumD_congr f g k (fun j hj => h j (by omega)), h k (by omega)]
/-- How many floors a round with so many floors of its own covers: row: the row of one round less. -/
def cov (row : Nat → Int) (e own : Nat) : Int := own + sumD (fun j => row (e - j)) (own + 1)
/-- How many floors t rounds with e eggs and h hands cover, at most 1000000000. -/
def rr (h : Nat) : Nat → Nat → Int
  | 0, _ => 0
  | t + 1, e => if e = 0 then 0 else min 1000000000 (cov (rr h t) e (min h e))
theorem rr_bd (h : Nat) : ∀ t e, 0 ≤ rr h t e ∧ rr h t e ≤ 1000000000
  | 0, e => by simp [rr]
  | t + 1, e => by
    have := sumD_bd (fun j => rr h t (e - j)) (fun j => rr_bd h t (e - j)) (min h e + 1)
    simp only [rr]
    split
    · omega
    · unfold cov; omega
theorem rr_none (h t : Nat) : rr h t 0 = 0 := by cases t <;> simp [rr]

set_option maxHeartbeats 1000000 in
theorem cover_calls (b t e own : Nat) (row : Nat → Int) (w : World) (ht1 : 1 ≤ t) (ht : t ≤ 1000) (he : e ≤ 10) (ho : own ≤ e) (hb : ∀ j, 0 ≤ row j ∧ row j ≤ 1000000000)
    (hc : ∀ j, j ≤ 10 → w.cell? ⟨b, 1 + (t - 1) * 11 + j, none⟩ = some (.int .i64 (row j))) :
    Calls Try.prog 68 #[.pointer (some ⟨b, 0, none⟩), .int .i64 t, .int .i64 e, .int .i64 own] w fun r w' => r = .returned (.int .i64 (cov row e own)) ∧ w' = w := by
  have HC := Lib.hid hc
  have HBD := Lib.hid hb
  clear hc hb
  go_enter Try.func68, Try.ntmps68
  go_wp2
  go_loopg [9, 10, 14] (own + 1) (fun gg s9 _ s14 wr => ∃ kk : Nat, kk ≤ own + 1 ∧ (own + 1) - kk ≤ gg ∧ s9 = .int .i64 ((own : Int) + sumD (fun j => row (e - j)) kk) ∧ s14 = .int .i64 kk ∧ wr = w)
  case atStart => exact ⟨0, Nat.zero_le _, by omega, by simp [sumD], rfl, rfl⟩
  case round =>
    obtain ⟨kk, hkk, hg, rfl, rfl, rfl⟩ := hrel
    by_cases hlt : kk < own + 1
    · have hcell : wr.cell? ⟨b, 1 + (t - 1) * 11 + (e - kk), none⟩ = some (.int .i64 (row (e - kk))) := HC.out (e - kk) (by omega)
      have hs1 : wrap64 ((own : Int) + sumD (fun j => row (e - j)) kk + row (e - kk)) = (own : Int) + sumD (fun j => row (e - j)) (kk + 1) := by
        have h1 := sumD_bd (fun j => row (e - j)) (fun j => HBD.out (e - j)) kk
        have h2 := HBD.out (e - kk)
        simp only [sumD]
        unfold wrap64; omega
      go_wp2
      go_roundg ((own + 1) - (kk + 1))
      case measure => omega
      case rel => exact ⟨kk + 1, by omega, by omega, by first | rw [hs1] | go_num, by go_num, rfl⟩
    · have hkn : kk = own + 1 := by omega
      subst hkn
      clear hlt hkk hg
      go_wp2
      go_ret
      exact ⟨rfl, rfl⟩

/-- The table when its first n cells (of the order of t * 11 + e) are filled. -/
def tabR (h n off : Nat) : Int := if off < n then rr h (off / 11) (off % 11) else 0
theorem tabR_bd (h n off : Nat) : 0 ≤ tabR h n off ∧ tabR h n off ≤ 1000000000 := by
  unfold tabR; split
  · exact rr_bd _ _ _
  · omega
structure InvR (h : Nat) (w wr : World) (n : Nat) : Prop where
  below : Below w.heap.size w wr
  size : w.heap.size < wr.heap.size
  hand : wr.cell? ⟨w.heap.size, 0, none⟩ = some (.int .i64 h)
  cell : ∀ off, off < 11011 → wr.cell? ⟨w.heap.size, 1 + off, none⟩ = some (.int .i64 (tabR h n off))
  free : ∀ off, off < 11011 → wr.frozen? ⟨w.heap.size, 1 + off, none⟩ = false
theorem zero47 : Try.zeroCells47 = Array.replicate 11012 (.int .i64 0) := by kernel_rfl
theorem invR_start (h : Nat) (w : World) : InvR h w (w.alloc (.cells (Try.zeroCells47.setIfInBounds 0 (.int .i64 h)) 47)) (1 * 11) := by
  refine ⟨(Below.refl _ _).alloc (Nat.le_refl _) _, by simp, by rw [World.cell?_alloc_new, zero47, Array.getElem?_setIfInBounds_self_of_lt (by simp)], fun off ho => ?_, fun off ho => by simp⟩
  rw [World.cell?_alloc_new, zero47]
  have : tabR h (1 * 11) off = 0 := by
    unfold tabR
    by_cases ho : off < 1 * 11
    · rw [if_pos ho, show off / 11 = 0 by omega]; rfl
    · rw [if_neg ho]
  rw [this, Array.getElem?_setIfInBounds_ne (by omega), Array.getElem?_replicate, if_pos (by omega)]
theorem invR_next {h : Nat} {w wr : World} {n : Nat} (H : InvR h w wr (n * 11)) : InvR h w wr (n * 11 + 1) := by
  refine ⟨H.below, H.size, H.hand, fun off ho => ?_, H.free⟩
  rw [H.cell off ho]
  have : tabR h (n * 11) off = tabR h (n * 11 + 1) off := by
    unfold tabR
    by_cases h1 : off < n * 11
    · rw [if_pos h1, if_pos (by omega)]
    · rw [if_neg h1]
      by_cases h2 : off < n * 11 + 1
      · rw [if_pos h2, show off % 11 = 0 by omega, rr_none]
      · rw [if_neg h2]
  rw [this]
theorem cov_row (h n m : Nat) (h1 : 1 ≤ n) (h3 : 1 ≤ m) (h4 : m ≤ 10) : min 1000000000 (cov (fun j => tabR h (n * 11 + m) ((n - 1) * 11 + j)) m (min h m)) = rr h n m := by
  obtain ⟨k, rfl⟩ : ∃ k, n = k + 1 := ⟨n - 1, by omega⟩
  simp only [rr]
  rw [if_neg (by omega)]
  congr 1
  unfold cov
  congr 1
  refine sumD_congr _ _ _ fun j hj => ?_
  have hle : m - j ≤ 10 := by omega
  show tabR h ((k + 1) * 11 + m) ((k + 1 - 1) * 11 + (m - j)) = rr h k (m - j)
  unfold tabR
  rw [if_pos (by omega), show ((k + 1 - 1) * 11 + (m - j)) / 11 = k by omega, show ((k + 1 - 1) * 11 + (m - j)) % 11 = m - j by omega]
theorem invR_step {h : Nat} {w wr : World} {n m : Nat} (H : InvR h w wr (n * 11 + m)) (h1 : 1 ≤ n) (h2 : n ≤ 1000) (h3 : 1 ≤ m) (h4 : m ≤ 10) {X : Int} (hX : X = rr h n m) :
    InvR h w (wr.setCell ⟨w.heap.size, 1 + n * 11 + m, none⟩ (.int .i64 X)) (n * 11 + (m + 1)) := by
  have ea : 1 + n * 11 + m = 1 + (n * 11 + m) := by omega
  rw [ea]
  refine ⟨H.below.setCell (Nat.le_refl _) _, by simpa using H.size, (by rw [World.cell?_setCell_other _ _ _ _ (by simp <;> omega)]; exact H.hand), fun off ho => ?_, fun off ho => ?_⟩
  · by_cases he : off = n * 11 + m
    · subst he
      rw [World.cell?_setCell_same _ _ _ (H.cell _ ho)]
      unfold tabR; rw [if_pos (by omega), show (n * 11 + m) / 11 = n by omega, show (n * 11 + m) % 11 = m by omega, hX]
    · rw [World.cell?_setCell_other _ _ _ _ (by simp <;> omega), H.cell off ho]
      have : tabR h (n * 11 + m) off = tabR h (n * 11 + (m + 1)) off := by
        unfold tabR
        by_cases h5 : off < n * 11 + m
        · rw [if_pos h5, if_pos (by omega)]
        · rw [if_neg h5, if_neg (by omega)]
      rw [this]
  · have := H.free off ho
    simpa using this
theorem InvR.drewN {h : Nat} {w wr : World} {n : Nat} (H : InvR h w wr n) (q : Nat) : InvR h w (wr.drewN q) n := ⟨⟨H.below.os, H.below.tape, H.below.output, H.below.size, H.below.block⟩, H.size, H.hand, H.cell, H.free⟩
set_option maxHeartbeats 1000000 in
theorem newRounds_calls (h : Nat) (hh : h ≤ 10) (w : World) : Calls Try.prog 42 #[.int .i64 h] w fun e w' => e = .returned (.pointer (some ⟨w.heap.size, 0, none⟩)) ∧ InvR h w w' 11011 := by
  have HI := invR_start h w
  go_enter Try.func42, Try.ntmps42
  go_wp2_with fail
  generalize Try.zeroCells47.setIfInBounds 0 (.int .i64 h) = Z at *
  generalize w.alloc (.cells Z 47) = w0 at *
  go_loopw [4, 5] (fun t _ wr => ∃ n : Nat, 1 ≤ n ∧ n ≤ 1001 ∧ t = .int .i64 n ∧ InvR h w wr (n * 11)) (fun t _ _ => (1001 - (intOf t).toNat))
  case atStart => exact ⟨1, by omega, by omega, rfl, HI⟩
  case round =>
    clear HI
    obtain ⟨n, h1, h2, rfl, HI⟩ := hrel
    by_cases hlt : n ≤ 1000
    · go_wp2_with fail
      go_loopw [5] (fun t wr => ∃ m : Nat, 1 ≤ m ∧ m ≤ 11 ∧ t = .int .i64 m ∧ InvR h w wr (n * 11 + m)) (fun t _ => (11 - (intOf t).toNat))
      case atStart => exact ⟨1, by omega, by omega, rfl, invR_next HI⟩
      case round =>
        clear HI
        obtain ⟨m, h3, h4, rfl, HI⟩ := hrel
        by_cases hm : m ≤ 10
        · have c3 : wr.cell? ⟨w.heap.size, 1 + n * 11 + m, none⟩ = some (.int .i64 (tabR h (n * 11 + m) (n * 11 + m))) := by have := HI.cell (n * 11 + m) (by omega); rw [← Nat.add_assoc] at this; exact this
          have f1 : wr.frozen? ⟨w.heap.size, 1 + n * 11 + m, none⟩ = false := by have := HI.free (n * 11 + m) (by omega); rw [← Nat.add_assoc] at this; exact this
          have HI' := Lib.hid HI
          have HCOV := Lib.hid (cover_calls w.heap.size n m (min h m) (fun j => tabR h (n * 11 + m) ((n - 1) * 11 + j)) wr.drew h1 hlt hm (by omega) (fun j => tabR_bd _ _ _) (fun j hj => by
            have := HI.cell ((n - 1) * 11 + j) (by omega); rw [← Nat.add_assoc] at this; exact this))
          have HR := Lib.hid (cov_row h n m h1 h3 hm)
          generalize cov (fun j => tabR h (n * 11 + m) ((n - 1) * 11 + j)) m (min h m) = C at *
          generalize tabR h (n * 11 + m) (n * 11 + m) = Z0 at *
          clear HI
          go_wp2_with fail
          have hown : (if m < h then (m : Int) else (h : Int)) = ((min h m : Nat) : Int) := by split <;> omega
          go_still_tail 15, (by kernel_rfl)
          still_call HCOV.out
          have i1 : (n : Int) < 1001 := by omega
          have i2 : (m : Int) < 11 := by omega
          repeat still_step
          refine wpStill_nil ?_
          change wpList _ _ _ _ _ wr.drew
          have c4 : wr.drew.cell? ⟨w.heap.size, 1 + n * 11 + m, none⟩ = some (.int .i64 Z0) := c3
          have f2 : wr.drew.frozen? ⟨w.heap.size, 1 + n * 11 + m, none⟩ = false := f1
          have HI2 : Hid (InvR h w wr.drew (n * 11 + m)) := Lib.hid (HI'.out.drewN 1)
          generalize wr.drew = w2 at *
          go_wp2_with fail
          all_goals exact ⟨⟨m + 1, by omega, by omega, by first | omega | go_num, invR_step HI2.out h1 hlt h3 hm (by have := HR.out; omega)⟩, by simp [intOf]; omega⟩
        · obtain rfl : m = 11 := by omega
          go_wp2_with fail
          exact ⟨⟨n + 1, by omega, by omega, by go_num, by rw [show (n + 1) * 11 = n * 11 + 11 by omega]; exact HI⟩, by simp [intOf]; omega⟩
    · obtain rfl : n = 1001 := by omega
      have HI' := Lib.hid HI
      clear HI
      go_wp2_with fail
      go_ret
      exact ⟨rfl, HI'.out⟩

/-- What the table holds. -/
structure TabR (h : Nat) (w : World) (b : Nat) : Prop where
  cell : ∀ t e, t ≤ 1000 → e ≤ 10 → w.cell? ⟨b, 1 + t * 11 + e, none⟩ = some (.int .i64 (rr h t e))
theorem TabR.below {h : Nat} {w w' : World} {b : Nat} (H : TabR h w b) (k : Below w.heap.size w w') (hb : b < w.heap.size) : TabR h w' b :=
  ⟨fun t e ht he => by rw [k.cell (p := ⟨b, 1 + t * 11 + e, none⟩) hb]; exact H.cell t e ht he⟩
theorem TabR.drewN {h : Nat} {w : World} {b : Nat} (H : TabR h w b) (q : Nat) : TabR h (w.drewN q) b := ⟨H.cell⟩
theorem InvR.tab {h : Nat} {w wr : World} (H : InvR h w wr 11011) : TabR h wr w.heap.size := by
  refine ⟨fun t e ht he => ?_⟩
  have h1 := H.cell (t * 11 + e) (by omega)
  rw [← Nat.add_assoc] at h1
  rw [h1]
  unfold tabR
  rw [if_pos (by omega), show (t * 11 + e) / 11 = t by omega, show (t * 11 + e) % 11 = e by omega]

/-- The first place from t on, of so many, at which a test holds; the last one if none does. -/
def firstT (p : Nat → Bool) (z : Nat) : Nat → Nat → Nat
  | 0, _ => z
  | k + 1, t => if p t then t else firstT p z k (t + 1)
def fewR (h e : Nat) (f : Int) : Nat := firstT (fun t => decide (rr h t e ≥ f)) 1000 1001 0
set_option maxHeartbeats 1000000 in
theorem fewest_calls (h b e : Nat) (f : Int) (w : World) (he : e ≤ 10) (HT : TabR h w b) :
    Calls Try.prog 47 #[.pointer (some ⟨b, 0, none⟩), .int .i64 e, .int .i64 f] w fun r w' => r = .returned (.int .i64 (fewR h e f : Nat)) ∧ ∃ q, w' = w.drewN q := by
  have HC := Lib.hid HT
  clear HT
  unfold fewR
  obtain ⟨R, hR⟩ : ∃ R, R = firstT (fun t => decide (rr h t e ≥ f)) 1000 1001 0 := ⟨_, rfl⟩
  rw [← hR]
  have HR := Lib.hid hR.symm
  clear hR
  have i2 : (e : Int) < 11 := by omega
  go_enter Try.func47, Try.ntmps47
  go_wp2
  go_loopg [7, 8] 1001 (fun gg _ s8 wr => ∃ t q : Nat, t ≤ 1001 ∧ 1001 - t ≤ gg ∧ s8 = .int .i64 t ∧ wr = w.drewN q ∧ Hid (firstT (fun t => decide (rr h t e ≥ f)) 1000 (1001 - t) t = R))
  case atStart => exact ⟨0, 0, Nat.zero_le _, by omega, rfl, rfl, HR⟩
  case round =>
    clear HR
    obtain ⟨t, q, ht, hg, rfl, rfl, HR⟩ := hrel
    by_cases hlt : t < 1001
    · have hcell : (w.drewN q).cell? ⟨b, 1 + t * 11 + e, none⟩ = some (.int .i64 (rr h t e)) := HC.out.cell t e (by omega) he
      have i1 : (t : Int) < 1001 := by omega
      have HR2 : Hid ((if decide (rr h t e ≥ f) then t else firstT (fun t => decide (rr h t e ≥ f)) 1000 (1001 - (t + 1)) (t + 1)) = R) := Lib.hid (by
        have h0 := HR.out
        rw [show 1001 - t = (1001 - (t + 1)) + 1 by omega] at h0
        exact h0)
      clear HR
      generalize rr h t e = X at *
      by_cases hx : X ≥ f
      · have hx1 : decide (f ≤ X) = true := decide_eq_true hx
        have HR3 : Hid (t = R) := Lib.hid (by have := HR2.out; rw [show decide (X ≥ f) = true from hx1, if_pos rfl] at this; exact this)
        clear HR2
        go_wp2_with fail
        go_ret
        exact ⟨by rw [HR3.out]; rfl, _, rfl⟩
      · have hx1 : decide (f ≤ X) = false := decide_eq_false hx
        have HR3 : Hid (firstT (fun t => decide (rr h t e ≥ f)) 1000 (1001 - (t + 1)) (t + 1) = R) := Lib.hid (by have := HR2.out; rw [show decide (X ≥ f) = false from hx1, if_neg (by decide)] at this; exact this)
        clear HR2
        go_wp2_with fail
        go_roundg (1001 - (t + 1))
        case measure => omega
        case rel => exact ⟨t + 1, _, by omega, by omega, by go_num, rfl, HR3⟩
    · obtain rfl : t = 1001 := by omega
      have HR3 : Hid (1000 = R) := Lib.hid HR.out
      clear HR
      go_wp2_with fail
      go_ret
      exact ⟨by rw [← HR3.out]; rfl, _, rfl⟩
end Go.Proofs.Ytnolocmcjcjjcaa.Fr
