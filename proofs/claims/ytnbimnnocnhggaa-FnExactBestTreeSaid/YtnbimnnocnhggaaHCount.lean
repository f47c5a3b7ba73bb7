/- The program's countTrees answers how many trees there are with so many eggs, floors and tests; no conditions. -/
import Derived.Test.YtnbimnnocnhggaaHTops
import Derived.StillTailTactics
import Derived.Deep.WholeRow
namespace Go.Proofs.Ytnbimnnocnhggaa.Hand
open Go Go.Proofs Go.RowKit
set_option maxRecDepth 100000
set_option linter.unusedVariables false

theorem i64w (n : Int) : IntKind.i64.wrap n = wrap64 n := by unfold wrap64; exact IntKind.wrap_i64 n
def sumD (f : Nat → Int) : Nat → Int
  | 0 => 0
  | k + 1 => sumD f k + f k
theorem sumD_nonneg (f : Nat → Int) : ∀ k, (∀ j, j < k → 0 ≤ f j) → 0 ≤ sumD f k
  | 0, _ => by simp [sumD]
  | k + 1, h => by have := sumD_nonneg f k (fun j hj => h j (by omega)); have := h k (by omega); simp only [sumD]; omega
theorem sumD_le (f g : Nat → Int) : ∀ k, (∀ j, j < k → f j ≤ g j) → sumD f k ≤ sumD g k
  | 0, _ => by simp [sumD]
  | k + 1, h => by have := sumD_le f g k (fun j hj => h j (by omega)); have := h k (by omega); simp only [sumD]; omega
theorem sumD_mono (f : Nat → Int) (k d : Nat) (h : ∀ j, j < k + d → 0 ≤ f j) : sumD f k ≤ sumD f (k + d) := by
  induction d with
  | zero => exact Int.le_refl _
  | succ d ih => have := ih (fun j hj => h j (by omega)); have := h (k + d) (by omega); rw [← Nat.add_assoc]; simp only [sumD]; omega
/-- How many trees of n floors have at most t tests and e eggs that break. -/
def wy : Nat → Nat → Nat → Int
  | 0, _, n => if n = 0 then 1 else 0
  | t + 1, e, n => if n = 0 then 1 else if e = 0 then 0 else sumD (fun j => wy t (e - 1) j * wy t e (n - 1 - j)) n
/-- All trees of so many floors. -/
def Cat (n : Nat) : Int := ([1, 1, 2, 5, 14, 42, 132, 429, 1430, 4862, 16796, 58786, 208012, 742900, 2674440, 9694845, 35357670, 129644790, 477638700, 1767263190, 6564120420, 24466267020, 91482563640, 343059613650, 1289904147324, 4861946401452, 18367353072152, 69533550916004, 263747951750360, 1002242216651368, 3814986502092304] : List Int).getD n 0
theorem Cat_all : ∀ n : Fin 31, 1 ≤ Cat n.val ∧ Cat n.val ≤ 3814986502092304 ∧ (1 ≤ n.val → sumD (fun j => Cat j * Cat (n.val - 1 - j)) n.val = Cat n.val) := by decide +kernel
theorem Cat_bd (n : Nat) (h : n ≤ 30) : 1 ≤ Cat n ∧ Cat n ≤ 3814986502092304 := ⟨(Cat_all ⟨n, by omega⟩).1, (Cat_all ⟨n, by omega⟩).2.1⟩
theorem Cat_sum (n : Nat) (h : n ≤ 30) (h1 : 1 ≤ n) : sumD (fun j => Cat j * Cat (n - 1 - j)) n = Cat n := (Cat_all ⟨n, by omega⟩).2.2 h1
theorem wy_bd : ∀ (t e n : Nat), n ≤ 30 → 0 ≤ wy t e n ∧ wy t e n ≤ Cat n
  | 0, e, n, h => by have := Cat_bd n h; simp only [wy]; split <;> omega
  | t + 1, e, n, h => by
    have hc := Cat_bd n h
    simp only [wy]
    split
    · omega
    · split
      · omega
      · rename_i h0 _
        have hp : ∀ j, j < n → 0 ≤ wy t (e - 1) j * wy t e (n - 1 - j) ∧ wy t (e - 1) j * wy t e (n - 1 - j) ≤ Cat j * Cat (n - 1 - j) := fun j hj => by
          have h1 := wy_bd t (e - 1) j (by omega)
          have h2 := wy_bd t e (n - 1 - j) (by omega)
          exact ⟨Int.mul_nonneg h1.1 h2.1, Int.mul_le_mul h1.2 h2.2 h2.1 (by omega)⟩
        refine ⟨sumD_nonneg _ _ fun j hj => (hp j hj).1, ?_⟩
        rw [← Cat_sum n h (by omega)]
        exact sumD_le _ _ _ fun j hj => (hp j hj).2
/-- The product that is added for one first floor, and the sum so far: all are small. -/
theorem part_bd (t e n f : Nat) (hn : n ≤ 30) (h1 : 1 ≤ n) (hf : f < n) : 0 ≤ sumD (fun j => wy t (e - 1) j * wy t e (n - 1 - j)) f ∧ 0 ≤ wy t (e - 1) f * wy t e (n - 1 - f) ∧ sumD (fun j => wy t (e - 1) j * wy t e (n - 1 - j)) f + wy t (e - 1) f * wy t e (n - 1 - f) ≤ 3814986502092304 := by
  have hp : ∀ j, j < n → 0 ≤ wy t (e - 1) j * wy t e (n - 1 - j) := fun j hj => Int.mul_nonneg (wy_bd t (e - 1) j (by omega)).1 (wy_bd t e (n - 1 - j) (by omega)).1
  refine ⟨sumD_nonneg _ _ fun j hj => hp j (by omega), hp f hf, ?_⟩
  have h2 := sumD_mono (fun j => wy t (e - 1) j * wy t e (n - 1 - j)) (f + 1) (n - (f + 1)) (fun j hj => hp j (by omega))
  rw [show f + 1 + (n - (f + 1)) = n by omega] at h2
  simp only [sumD] at h2
  by_cases he : e = 0
  · have h3 : sumD (fun j => wy t (e - 1) j * wy t e (n - 1 - j)) n ≤ sumD (fun j => Cat j * Cat (n - 1 - j)) n := sumD_le _ _ _ fun j hj => by
      have a1 := wy_bd t (e - 1) j (by omega)
      have a2 := wy_bd t e (n - 1 - j) (by omega)
      have := Cat_bd j (by omega)
      exact Int.mul_le_mul a1.2 a2.2 a2.1 (by omega)
    rw [Cat_sum n hn h1] at h3
    have := Cat_bd n hn
    omega
  · have h3 := (wy_bd (t + 1) e n hn).2
    simp only [wy] at h3
    rw [if_neg (by omega), if_neg he] at h3
    have := Cat_bd n hn
    omega

/-- The table while it is filled: (t, e, n) is what is filled next; p: what that cell holds so far. -/
def V (E F tc ec nc : Nat) (p : Int) (t e n : Nat) : Int :=
  if e ≤ E ∧ n ≤ F ∧ (t < tc ∨ (t = tc ∧ (e < ec ∨ (e = ec ∧ n < nc)))) then wy t e n else if t = tc ∧ e = ec ∧ n = nc then p else 0
structure InvC (v : Nat → Nat → Nat → Int) (w wr : World) : Prop where
  below : Below w.heap.size w wr
  size : w.heap.size < wr.heap.size
  cell : ∀ t e n, t ≤ 30 → e ≤ 10 → n ≤ 30 → wr.cell? ⟨w.heap.size, t * 341 + e * 31 + n, none⟩ = some (.int .i64 (v t e n))
  free : ∀ t e n, t ≤ 30 → e ≤ 10 → n ≤ 30 → wr.frozen? ⟨w.heap.size, t * 341 + e * 31 + n, none⟩ = false
theorem InvC.drew {v : Nat → Nat → Nat → Int} {w wr : World} (H : InvC v w wr) : InvC v w wr.drew := ⟨H.below.drew, H.size, H.cell, H.free⟩
theorem InvC.put {v v' : Nat → Nat → Nat → Int} {w wr : World} (H : InvC v w wr) {t e n : Nat} (ht : t ≤ 30) (he : e ≤ 10) (hn : n ≤ 30) {x : Int}
    (hv : ∀ t' e' n', t' ≤ 30 → e' ≤ 10 → n' ≤ 30 → v' t' e' n' = if t' = t ∧ e' = e ∧ n' = n then x else v t' e' n') :
    InvC v' w (wr.setCell ⟨w.heap.size, t * 341 + e * 31 + n, none⟩ (.int .i64 x)) := by
  refine ⟨H.below.setCell (Nat.le_refl _) _, by simpa using H.size, fun t' e' n' h1 h2 h3 => ?_, fun t' e' n' h1 h2 h3 => by simpa using H.free t' e' n' h1 h2 h3⟩
  rw [hv t' e' n' h1 h2 h3]
  by_cases hc : t' = t ∧ e' = e ∧ n' = n
  · obtain ⟨rfl, rfl, rfl⟩ := hc
    rw [World.cell?_setCell_same _ _ _ (H.cell _ _ _ h1 h2 h3), if_pos ⟨rfl, rfl, rfl⟩]
  · rw [World.cell?_setCell_other _ _ _ _ (by simp <;> omega), H.cell t' e' n' h1 h2 h3, if_neg hc]
theorem InvC.same {v v' : Nat → Nat → Nat → Int} {w wr : World} (H : InvC v w wr) (hv : ∀ t e n, t ≤ 30 → e ≤ 10 → n ≤ 30 → v' t e n = v t e n) : InvC v' w wr :=
  ⟨H.below, H.size, fun t e n h1 h2 h3 => by rw [hv t e n h1 h2 h3]; exact H.cell t e n h1 h2 h3, H.free⟩
theorem wy_zero (t e : Nat) : wy t e 0 = 1 := by cases t <;> simp [wy]
theorem wy_none (t e n : Nat) (h : t = 0 ∨ e = 0) (hn : 1 ≤ n) : wy t e n = 0 := by
  cases t with
  | zero => simp only [wy]; rw [if_neg (by omega)]
  | succ t => simp only [wy]; rw [if_neg (by omega), if_pos (by omega)]
theorem wy_step (t e n : Nat) (h1 : 1 ≤ t) (h2 : 1 ≤ e) (h3 : 1 ≤ n) : wy t e n = sumD (fun j => wy (t - 1) (e - 1) j * wy (t - 1) e (n - 1 - j)) n := by
  obtain ⟨s, rfl⟩ : ∃ s, t = s + 1 := ⟨t - 1, by omega⟩
  simp only [wy, Nat.add_sub_cancel]
  rw [if_neg (by omega), if_neg (by omega)]
theorem V_first (E F tc ec : Nat) (hE : ec ≤ E) (t e n : Nat) : V E F tc ec 1 0 t e n = if t = tc ∧ e = ec ∧ n = 0 then 1 else V E F tc ec 0 0 t e n := by
  unfold V
  by_cases hc : t = tc ∧ e = ec ∧ n = 0
  · obtain ⟨rfl, rfl, rfl⟩ := hc
    rw [if_pos ⟨hE, Nat.zero_le _, by omega⟩, wy_zero, if_pos ⟨rfl, rfl, rfl⟩]
  · rw [if_neg hc]
    by_cases h1 : e ≤ E ∧ n ≤ F ∧ (t < tc ∨ (t = tc ∧ (e < ec ∨ (e = ec ∧ n < 0))))
    · rw [if_pos h1, if_pos (by omega)]
    · rw [if_neg h1]
      by_cases h2 : e ≤ E ∧ n ≤ F ∧ (t < tc ∨ (t = tc ∧ (e < ec ∨ (e = ec ∧ n < 1))))
      · exact absurd hc (by omega)
      · rw [if_neg h2]; simp only [ite_self]
theorem V_add (E F tc ec nc : Nat) (p q : Int) (t e n : Nat) : V E F tc ec nc q t e n = if t = tc ∧ e = ec ∧ n = nc then q else V E F tc ec nc p t e n := by
  unfold V
  by_cases hc : t = tc ∧ e = ec ∧ n = nc
  · rw [if_pos hc, if_neg (by omega), if_pos hc]
  · rw [if_neg hc, if_neg hc, if_neg hc]
theorem V_full (E F tc ec nc : Nat) (hE : ec ≤ E) (hF : nc ≤ F) (t e n : Nat) : V E F tc ec (nc + 1) 0 t e n = V E F tc ec nc (wy tc ec nc) t e n := by
  unfold V
  by_cases hc : t = tc ∧ e = ec ∧ n = nc
  · obtain ⟨rfl, rfl, rfl⟩ := hc
    rw [if_pos ⟨hE, hF, by omega⟩, if_neg (by omega), if_pos ⟨rfl, rfl, rfl⟩]
  · rw [if_neg hc]
    by_cases h1 : e ≤ E ∧ n ≤ F ∧ (t < tc ∨ (t = tc ∧ (e < ec ∨ (e = ec ∧ n < nc))))
    · rw [if_pos h1, if_pos (by omega)]
    · rw [if_neg h1, if_neg (by omega)]; split <;> rfl
theorem V_row (E F tc ec : Nat) (t e n : Nat) : V E F tc (ec + 1) 0 0 t e n = V E F tc ec (F + 1) 0 t e n := by
  unfold V
  by_cases h1 : e ≤ E ∧ n ≤ F ∧ (t < tc ∨ (t = tc ∧ (e < ec ∨ (e = ec ∧ n < F + 1))))
  · rw [if_pos h1, if_pos (by omega)]
  · rw [if_neg h1, if_neg (by omega)]; split <;> split <;> rfl
theorem V_skip (E F tc ec : Nat) (h : tc = 0 ∨ ec = 0) (t e n : Nat) : V E F tc (ec + 1) 0 0 t e n = V E F tc ec 1 0 t e n := by
  unfold V
  by_cases h1 : e ≤ E ∧ n ≤ F ∧ (t < tc ∨ (t = tc ∧ (e < ec ∨ (e = ec ∧ n < 1))))
  · rw [if_pos h1, if_pos (by omega)]
  · rw [if_neg h1]
    have hr : (if t = tc ∧ e = ec ∧ n = 1 then (0 : Int) else 0) = 0 := by split <;> rfl
    rw [hr]
    by_cases h2 : e ≤ E ∧ n ≤ F ∧ (t < tc ∨ (t = tc ∧ (e < ec + 1 ∨ (e = ec + 1 ∧ n < 0))))
    · rw [if_pos h2, wy_none t e n (by omega) (by omega)]
    · rw [if_neg h2]; split <;> rfl
theorem V_next (E F tc : Nat) (t e n : Nat) : V E F (tc + 1) 0 0 0 t e n = V E F tc (E + 1) 0 0 t e n := by
  unfold V
  by_cases h1 : e ≤ E ∧ n ≤ F ∧ (t < tc ∨ (t = tc ∧ (e < E + 1 ∨ (e = E + 1 ∧ n < 0))))
  · rw [if_pos h1, if_pos (by omega)]
  · rw [if_neg h1, if_neg (by omega)]; split <;> split <;> rfl

theorem zero66 : Try.zeroCells66 = Array.replicate 10571 (.int .i64 0) := by kernel_rfl
theorem invC_start (E F : Nat) (w wr : World) (hb : Below w.heap.size w wr) (hs : w.heap.size < wr.heap.size) (hc : ∀ off, off < 10571 → wr.cell? ⟨w.heap.size, off, none⟩ = some (.int .i64 0)) (hf : ∀ off, off < 10571 → wr.frozen? ⟨w.heap.size, off, none⟩ = false) : InvC (V E F 0 0 0 0) w wr := by
  refine ⟨hb, hs, fun t e n h1 h2 h3 => ?_, fun t e n h1 h2 h3 => hf _ (by omega)⟩
  rw [hc _ (by omega)]
  unfold V
  rw [if_neg (by omega)]
  simp only [ite_self]
theorem size66 : (Try.prog.info? 66).map (·.size) = some 10571 := by kernel_rfl
theorem zsize66 : Try.zeroCells66.size = 10571 := by rw [zero66, Array.size_replicate]
theorem one66 : Try.zeroCells66.all (·.oneCell') = true := by rw [zero66, Array.all_eq_true]; intro i h; rw [Array.getElem_replicate]; rfl
theorem stored66 (w : World) : Sem.run Try.prog (storeCells ⟨w.heap.size, 0, none⟩ Try.zeroCells66.toList) (w.alloc (.cells Try.zeroCells66 66)) = .ok () (w.alloc (.cells Try.zeroCells66 66)) :=
  run_storeCells_new w 66 _ _ (by rw [size66, zsize66]) rfl one66
set_option maxHeartbeats 4000000 in
theorem countTrees_calls (E F T : Nat) (hE : E ≤ 10) (hF : F ≤ 30) (hT : T ≤ 30) (w : World) : Calls Try.prog 71 #[.int .i64 E, .int .i64 F, .int .i64 T] w fun r w' => r = .returned (.int .i64 (wy T E F)) ∧ Below w.heap.size w w' := by
  have hst := stored66 w
  have HI := Lib.hid (invC_start E F w (w.alloc (.cells Try.zeroCells66 66)) ((Below.refl _ _).alloc (Nat.le_refl _) _) (by simp) (fun off h => by rw [World.cell?_alloc_new, zero66]; simp [h]) (fun off h => by simp))
  go_enter Try.func71, Try.ntmps71
  go_wp2_with fail
  clear hst
  generalize hz : Try.zeroCells66 = Z at *
  clear hz
  generalize w.alloc (.cells Z 66) = w0 at *
  have hwT : wrap64 ((T : Int) + 1) = ((T + 1 : Nat) : Int) := by unfold wrap64; omega
  have hwE : wrap64 ((E : Int) + 1) = ((E + 1 : Nat) : Int) := by unfold wrap64; omega
  go_loopg [8, 9, 10, 11, 15, 20] (T + 1) (fun gg _ _ _ _ s15 _ wr => ∃ tc : Nat, tc ≤ T + 1 ∧ (T + 1) - tc ≤ gg ∧ s15 = .int .i64 tc ∧ Hid (InvC (V E F tc 0 0 0) w wr))
  case atStart => exact ⟨0, Nat.zero_le _, by omega, rfl, HI⟩
  case round =>
    clear HI
    obtain ⟨tc, htc, hg, rfl, HI⟩ := hrel
    by_cases hlt : tc < T + 1
    · have hd1 : decide ((tc : Int) < (T : Int) + 1) = true := decide_eq_true (by omega)
      go_wp2_with fail
      go_loopg [9, 10, 11, 20] (E + 1) (fun gg _ _ _ s20 wr => ∃ ec : Nat, ec ≤ E + 1 ∧ (E + 1) - ec ≤ gg ∧ s20 = .int .i64 ec ∧ Hid (InvC (V E F tc ec 0 0) w wr))
      case atStart => exact ⟨0, Nat.zero_le _, by omega, rfl, HI⟩
      case round =>
        clear HI
        obtain ⟨ec, hec, hg2, rfl, HI⟩ := hrel
        by_cases hle : ec < E + 1
        · have hd2 : decide ((ec : Int) < (E : Int) + 1) = true := decide_eq_true (by omega)
          have c3 : wr.cell? ⟨w.heap.size, tc * 341 + ec * 31, none⟩ = some (.int .i64 (V E F tc ec 0 0 tc ec 0)) := HI.out.cell tc ec 0 (by omega) (by omega) (by omega)
          have f1 : wr.frozen? ⟨w.heap.size, tc * 341 + ec * 31, none⟩ = false := HI.out.free tc ec 0 (by omega) (by omega) (by omega)
          have i1 : (tc : Int) < 31 := by omega
          have i2 : (ec : Int) < 11 := by omega
          have HI1 : Hid (InvC (V E F tc ec 1 0) w (wr.setCell ⟨w.heap.size, tc * 341 + ec * 31, none⟩ (.int .i64 1))) := Lib.hid (HI.out.put (t := tc) (e := ec) (n := 0) (by omega) (by omega) (by omega) (fun t' e' n' _ _ _ => V_first E F tc ec (by omega) t' e' n'))
          clear HI
          go_wp2_with fail
          clear c3 f1
          generalize wr.setCell ⟨w.heap.size, tc * 341 + ec * 31, none⟩ (.int .i64 1) = w1 at *
          go_loopg [10, 11] (F + 1) (fun gg s10 _ wr => ∃ nc : Nat, 1 ≤ nc ∧ nc ≤ F + 1 ∧ (F + 1) - nc ≤ gg ∧ s10 = .int .i64 nc ∧ (nc = 1 ∨ (1 ≤ tc ∧ 1 ≤ ec)) ∧ Hid (InvC (V E F tc ec nc 0) w wr))
          case atStart => exact ⟨1, by omega, by omega, by omega, rfl, .inl rfl, HI1⟩
          case round =>
            clear HI1
            obtain ⟨nc, hn1, hn2, hg3, rfl, hor, HI⟩ := hrel
            by_cases hln : nc ≤ F
            · have b1 : decide ((nc : Int) ≤ (F : Int)) = true := decide_eq_true (by omega)
              by_cases ht0 : 1 ≤ tc
              · have b2 : decide ((0 : Int) < (tc : Int)) = true := decide_eq_true (by omega)
                have b2n : decide (0 < tc) = true := decide_eq_true (by omega)
                by_cases he0 : 1 ≤ ec
                · have b3 : decide ((0 : Int) < (ec : Int)) = true := decide_eq_true (by omega)
                  have b3n : decide (0 < ec) = true := decide_eq_true (by omega)
                  go_wp2_with fail
                  go_loopg [11] (nc + 1) (fun gg s11 wr => ∃ f : Nat, 1 ≤ f ∧ f ≤ nc + 1 ∧ (nc + 1) - f ≤ gg ∧ s11 = .int .i64 f ∧ Hid (InvC (V E F tc ec nc (sumD (fun j => wy (tc - 1) (ec - 1) j * wy (tc - 1) ec (nc - 1 - j)) (f - 1))) w wr))
                  case atStart => exact ⟨1, by omega, by omega, by omega, rfl, HI⟩
                  case round =>
                    clear HI
                    obtain ⟨f, hf1, hf2, hg4, rfl, HI⟩ := hrel
                    by_cases hlf : f ≤ nc
                    · have k0 : wr.drew.cell? ⟨w.heap.size, tc * 341 + ec * 31 + nc, none⟩ = some (.int .i64 (V E F tc ec nc (sumD (fun j => wy (tc - 1) (ec - 1) j * wy (tc - 1) ec (nc - 1 - j)) (f - 1)) tc ec nc)) := HI.out.cell tc ec nc (by omega) (by omega) (by omega)
                      have k1 : wr.drew.cell? ⟨w.heap.size, (tc - 1) * 341 + (ec - 1) * 31 + (f - 1), none⟩ = some (.int .i64 (V E F tc ec nc (sumD (fun j => wy (tc - 1) (ec - 1) j * wy (tc - 1) ec (nc - 1 - j)) (f - 1)) (tc - 1) (ec - 1) (f - 1))) := HI.out.cell (tc - 1) (ec - 1) (f - 1) (by omega) (by omega) (by omega)
                      have k2 : wr.drew.cell? ⟨w.heap.size, (tc - 1) * 341 + ec * 31 + (nc - f), none⟩ = some (.int .i64 (V E F tc ec nc (sumD (fun j => wy (tc - 1) (ec - 1) j * wy (tc - 1) ec (nc - 1 - j)) (f - 1)) (tc - 1) ec (nc - f))) := HI.out.cell (tc - 1) ec (nc - f) (by omega) (by omega) (by omega)
                      have f1 : wr.drew.frozen? ⟨w.heap.size, tc * 341 + ec * 31 + nc, none⟩ = false := HI.out.free tc ec nc (by omega) (by omega) (by omega)
                      have v0 : V E F tc ec nc (sumD (fun j => wy (tc - 1) (ec - 1) j * wy (tc - 1) ec (nc - 1 - j)) (f - 1)) tc ec nc = sumD (fun j => wy (tc - 1) (ec - 1) j * wy (tc - 1) ec (nc - 1 - j)) (f - 1) := by unfold V; rw [if_neg (by omega), if_pos ⟨rfl, rfl, rfl⟩]
                      have v1 : V E F tc ec nc (sumD (fun j => wy (tc - 1) (ec - 1) j * wy (tc - 1) ec (nc - 1 - j)) (f - 1)) (tc - 1) (ec - 1) (f - 1) = wy (tc - 1) (ec - 1) (f - 1) := by unfold V; rw [if_pos (by omega)]
                      have v2 : V E F tc ec nc (sumD (fun j => wy (tc - 1) (ec - 1) j * wy (tc - 1) ec (nc - 1 - j)) (f - 1)) (tc - 1) ec (nc - f) = wy (tc - 1) ec (nc - f) := by unfold V; rw [if_pos (by omega)]
                      rw [v0] at k0
                      rw [v1] at k1
                      rw [v2] at k2
                      clear v0 v1 v2
                      have hbd := part_bd (tc - 1) ec nc (f - 1) (by omega) hn1 (by omega)
                      rw [show nc - 1 - (f - 1) = nc - f by omega] at hbd
                      have hnext : Hid (sumD (fun j => wy (tc - 1) (ec - 1) j * wy (tc - 1) ec (nc - 1 - j)) (f + 1 - 1) = sumD (fun j => wy (tc - 1) (ec - 1) j * wy (tc - 1) ec (nc - 1 - j)) (f - 1) + wy (tc - 1) (ec - 1) (f - 1) * wy (tc - 1) ec (nc - f)) := Lib.hid (by
                        obtain ⟨f', rfl⟩ : ∃ f', f = f' + 1 := ⟨f - 1, by omega⟩
                        simp only [Nat.add_sub_cancel, sumD]
                        rw [show nc - 1 - f' = nc - (f' + 1) by omega])
                      have HI2 : Hid (InvC (V E F tc ec nc (sumD (fun j => wy (tc - 1) (ec - 1) j * wy (tc - 1) ec (nc - 1 - j)) (f - 1))) w wr.drew) := Lib.hid HI.out.drew
                      clear HI
                      obtain ⟨S0, hS⟩ : ∃ S0, S0 = sumD (fun j => wy (tc - 1) (ec - 1) j * wy (tc - 1) ec (nc - 1 - j)) (f - 1) := ⟨_, rfl⟩
                      obtain ⟨X, hX⟩ : ∃ X, X = wy (tc - 1) (ec - 1) (f - 1) := ⟨_, rfl⟩
                      obtain ⟨Y, hY⟩ : ∃ Y, Y = wy (tc - 1) ec (nc - f) := ⟨_, rfl⟩
                      rw [← hS] at k0 hbd HI2 hnext
                      rw [← hX] at k1 hbd hnext
                      rw [← hY] at k2 hbd hnext
                      clear hS hX hY
                      have hm : wrap64 (X * Y) = X * Y := by unfold wrap64; omega
                      have hs : wrap64 (S0 + X * Y) = S0 + X * Y := by unfold wrap64; omega
                      have q1 : IntKind.i64.wrap ((tc : Int) - 1) = ((tc - 1 : Nat) : Int) := by rw [i64w]; unfold wrap64; omega
                      have q2 : IntKind.i64.wrap ((ec : Int) - 1) = ((ec - 1 : Nat) : Int) := by rw [i64w]; unfold wrap64; omega
                      have q3 : IntKind.i64.wrap ((f : Int) - 1) = ((f - 1 : Nat) : Int) := by rw [i64w]; unfold wrap64; omega
                      have q4 : IntKind.i64.wrap ((nc : Int) - (f : Int)) = ((nc - f : Nat) : Int) := by rw [i64w]; unfold wrap64; omega
                      have q5 : IntKind.i64.wrap (X * Y) = X * Y := by rw [i64w]; exact hm
                      have q6 : IntKind.i64.wrap (S0 + X * Y) = S0 + X * Y := by rw [i64w]; exact hs
                      have HBD := Lib.hid hbd
                      clear hbd
                      have j1 : (nc : Int) < 31 := by omega
                      have j2 : ((ec - 1 : Nat) : Int) < 11 := by omega
                      have j3 : ((tc - 1 : Nat) : Int) < 31 := by omega
                      have j4 : ((f - 1 : Nat) : Int) < 31 := by omega
                      have j5 : ((nc - f : Nat) : Int) < 31 := by omega
                      go_wp2_with fail
                      go_still_tail 32, (by kernel_rfl)
                      obtain ⟨w2, hw2⟩ : ∃ w2, w2 = wr.drew := ⟨_, rfl⟩
                      have ew : ({ heap := wr.heap, tape := wr.tape, drawn := wr.drawn + 1, os := wr.os, output := wr.output } : World) = w2 := hw2.symm
                      rw [ew]
                      rw [← hw2] at k0 k1 k2 f1 HI2
                      clear ew hw2
                      repeat still_step
                      try refine wpStill_nil ?_
                      go_wp2_with fail
                      go_roundg ((nc + 1) - (f + 1))
                      case measure => omega
                      case rel => exact ⟨f + 1, by omega, by omega, by omega, by go_num, Lib.hid (HI2.out.put (by omega) (by omega) (by omega) (fun t' e' n' _ _ _ => by rw [hnext.out]; exact V_add E F tc ec nc S0 _ t' e' n'))⟩
                    · obtain rfl : f = nc + 1 := by omega
                      have HI2 : Hid (InvC (V E F tc ec (nc + 1) 0) w wr) := Lib.hid (HI.out.same (fun t' e' n' _ _ _ => by
                        rw [V_full E F tc ec nc (by omega) (by omega), wy_step tc ec nc ht0 he0 hn1]; rfl))
                      clear HI
                      go_wp2_with fail
                      go_roundg ((F + 1) - (nc + 1))
                      case measure => omega
                      case rel => exact ⟨nc + 1, by omega, by omega, by omega, by go_num, .inr ⟨ht0, he0⟩, HI2⟩
                · have b3 : decide ((0 : Int) < (ec : Int)) = false := decide_eq_false (by omega)
                  obtain rfl : nc = 1 := by omega
                  have HI2 : Hid (InvC (V E F tc (ec + 1) 0 0) w wr) := Lib.hid (HI.out.same (fun t' e' n' _ _ _ => V_skip E F tc ec (by omega) t' e' n'))
                  clear HI
                  go_wp2_with fail
                  go_roundg ((E + 1) - (ec + 1))
                  case measure => omega
                  case rel => exact ⟨ec + 1, by omega, by omega, by go_num, HI2⟩
              · have b2 : decide ((0 : Int) < (tc : Int)) = false := decide_eq_false (by omega)
                obtain rfl : nc = 1 := by omega
                have HI2 : Hid (InvC (V E F tc (ec + 1) 0 0) w wr) := Lib.hid (HI.out.same (fun t' e' n' _ _ _ => V_skip E F tc ec (by omega) t' e' n'))
                clear HI
                go_wp2_with fail
                go_roundg ((E + 1) - (ec + 1))
                case measure => omega
                case rel => exact ⟨ec + 1, by omega, by omega, by go_num, HI2⟩
            · obtain rfl : nc = F + 1 := by omega
              have b1 : decide (((F + 1 : Nat) : Int) ≤ (F : Int)) = false := decide_eq_false (by omega)
              have HI2 : Hid (InvC (V E F tc (ec + 1) 0 0) w wr) := Lib.hid (HI.out.same (fun t' e' n' _ _ _ => V_row E F tc ec t' e' n'))
              clear HI
              go_wp2_with fail
              go_roundg ((E + 1) - (ec + 1))
              case measure => omega
              case rel => exact ⟨ec + 1, by omega, by omega, by go_num, HI2⟩
        · obtain rfl : ec = E + 1 := by omega
          have HI2 : Hid (InvC (V E F (tc + 1) 0 0 0) w wr) := Lib.hid (HI.out.same (fun t' e' n' _ _ _ => V_next E F tc t' e' n'))
          clear HI
          go_wp2_with fail
          go_roundg ((T + 1) - (tc + 1))
          case measure => omega
          case rel => exact ⟨tc + 1, by omega, by omega, by go_num, HI2⟩
    · obtain rfl : tc = T + 1 := by omega
      have k0 : wr.cell? ⟨w.heap.size, T * 341 + E * 31 + F, none⟩ = some (.int .i64 (wy T E F)) := by
        have h := HI.out.cell T E F hT hE hF
        have hv : V E F (T + 1) 0 0 0 T E F = wy T E F := by unfold V; rw [if_pos (by omega)]
        rw [hv] at h; exact h
      have HB := Lib.hid HI.out.below
      clear HI
      have i1 : (T : Int) < 31 := by omega
      have i2 : (E : Int) < 11 := by omega
      have i3 : (F : Int) < 31 := by omega
      go_wp2_with fail
      go_ret
      exact ⟨rfl, HB.out⟩
end Go.Proofs.Ytnbimnnocnhggaa.Hand
