/- The program's AreDrops and AreKindTests answer what their words say; no conditions. -/
import Derived.Test.YtbgmhdlmhncdcaaDoorHText
namespace Go.Proofs.YtbgmhdlmhncdcaaDoor.Hand
open Go Go.Proofs Go.RowKit Go.Shelf Go.Lib Go.Proofs.YtbgmhdlmhncdcaaDoorW.PrintWords Go.Proofs.YtbgmhdlmhncdcaaDoorW.PrintMore
set_option maxRecDepth 100000
set_option linter.unusedVariables false

theorem cell_spot {w : World} {a : Addr} {v : Value} (h : w.cell? a = some v) : a = ⟨a.block, a.off, none⟩ ∧ a.block < w.heap.size := by
  refine ⟨?_, World.block_lt_of_cell? w _ h⟩
  unfold World.cell? at h
  split at h
  · split at h
    · exact absurd h (by simp)
    · rename_i hs
      cases a with
      | mk b o s => cases s with
        | none => rfl
        | some x => simp at hs
  · exact absurd h (by simp)

theorem addp (b o n : Nat) : (⟨b, o, none⟩ : Addr).add n = ⟨b, o + n, none⟩ := addq b o n
theorem isFloors_all (a : Int) (w : World) : Calls Tryd.prog 92 #[.int .i64 a] w fun r w' => r = .returned (.bool (inn a 0 1000)) ∧ w = w' := by
  go_enter Tryd.func92, Tryd.ntmps92
  go_wp2_with (go_at_call 95; refine (within_all _ _ _ _).mono ?_; rintro e w' ⟨rfl, rfl⟩)
  go_ret
  exact ⟨rfl, rfl⟩
theorem isKindFloors_all (a : Int) (w : World) : Calls Tryd.prog 101 #[.int .i64 a] w fun r w' => r = .returned (.bool (inn a 0 6)) ∧ w = w' := by
  go_enter Tryd.func101, Tryd.ntmps101
  go_wp2_with (go_at_call 95; refine (within_all _ _ _ _).mono ?_; rintro e w' ⟨rfl, rfl⟩)
  go_ret
  exact ⟨rfl, rfl⟩

def encDrop (x : Int × Bool) : List Value := [.int .i64 x.1, .bool x.2]
/-- A row of such structs: its cells. -/
def RowDrop (w : World) (A : Option Addr) (zs : List (Int × Bool)) : Prop := zs.length ≤ 9223372036854775807 ∧ (0 < zs.length → ∃ ad, A = some ad ∧ ∀ j, j < zs.length → ∀ i v, (encDrop zs[j]!)[i]? = some v → w.cell? (ad.add (j * 2 + i)) = some v)
theorem rowDrop_below {w w1 : World} {A : Option Addr} {zs : List (Int × Bool)} (h : RowDrop w A zs) (hb : Below w.heap.size w w1) : RowDrop w1 A zs := ⟨h.1, fun h0 => by
  obtain ⟨ad, e, hc⟩ := h.2 h0
  exact ⟨ad, e, fun j hj i v hi => (hb.cell (World.block_lt_of_cell? w _ (hc j hj i v hi))).trans (hc j hj i v hi)⟩⟩

theorem pred94 (lim : Int) (B : Nat) (w : World) (hB : B < w.heap.size) (hcell : w.cell? ⟨B, 0, none⟩ = some (.int .i64 lim)) :
    PredBelow Tryd.prog 94 #[.pointer (some ⟨B, 0, none⟩)] (fun x => .agg (encDrop x).toArray) (fun x => !(inn x.1 1 lim)) w := fun W x hb => by
  have hc : W.cell? ⟨B, 0, none⟩ = some (.int .i64 lim) := (hb.cell (p := ⟨B, 0, none⟩) hB).trans hcell
  have hBW : B < W.heap.size := Nat.lt_of_lt_of_le hB hb.size
  have hne : B ≠ W.heap.size := by omega
  show Calls Tryd.prog 94 #[.agg #[.int .i64 x.1, .bool x.2], .pointer (some ⟨B, 0, none⟩)] W _
  go_enter Tryd.func94, Tryd.ntmps94
  go_wp2_with (go_at_call 95; refine (within_all _ _ _ _).mono ?_; rintro e w' ⟨rfl, rfl⟩)
  all_goals (go_ret; exact ⟨by simp_all, by first | exact hb.alloc hb.size _ | exact pw_below_drewN (hb.alloc hb.size _) _⟩)

theorem idx_empty119 (a : Option Addr) (c : Nat) (fv : Value) (w : World) : Calls Tryd.prog 119 #[.slice a 0 c, fv] w fun e w' => e = .returned (.int .i64 (-1)) ∧ w' = w := by
  go_enter Tryd.func119, Tryd.ntmps119
  go_wp2
  go_loopg [5, 8] 0 (fun _ _ s8 wr => s8 = .int .i64 0 ∧ wr = w)
  case atStart => exact ⟨rfl, rfl⟩
  case round =>
    obtain ⟨rfl, rfl⟩ := hrel
    go_wp2
    go_ret
    exact ⟨rfl, rfl⟩
theorem any_empty93 (a : Option Addr) (c : Nat) (fv : Value) (w : World) : Calls Tryd.prog 93 #[.slice a 0 c, fv] w fun e w' => e = .returned (.bool false) ∧ w' = w := by
  go_enter Tryd.func93, Tryd.ntmps93
  go_wp2_with (go_at_call 119; refine (idx_empty119 a c fv _).mono ?_; rintro e w' ⟨rfl, rfl⟩)
  go_ret
  exact ⟨rfl, rfl⟩
theorem any93 (A : Option Addr) (c : Nat) (zs : List (Int × Bool)) (lim : Int) (B : Nat) (w : World) (h : RowDrop w A zs) (hB : B < w.heap.size) (hcell : w.cell? ⟨B, 0, none⟩ = some (.int .i64 lim)) :
    Calls Tryd.prog 93 #[.slice A zs.length c, .func (.func 94) #[] #[.pointer (some ⟨B, 0, none⟩)]] w fun e w' => e = .returned (.bool (zs.any fun x => !(inn x.1 1 lim))) ∧ Below w.heap.size w w' := by
  have eg : ∀ args w, (callFunc 94 args).run Tryd.prog w = .ok (.enter 94 args) w := enters_of Tryd.func94 (by kernel_rfl) rfl
  by_cases h0 : zs.length = 0
  · obtain rfl := List.length_eq_zero_iff.mp h0
    exact (any_empty93 A c (.func (.func 94) #[] #[.pointer (some ⟨B, 0, none⟩)]) w).mono fun e w' ⟨he, hw⟩ => ⟨he, by subst hw; exact Below.refl _ _⟩
  · obtain ⟨ad, rfl, hc⟩ := h.2 (by omega)
    have h1 := hc 0 (by omega) 0 _ rfl
    obtain ⟨e1, hblk⟩ := cell_spot h1
    have e2 : ad.add 0 = ad := rfl
    rw [show (0 * 2 + 0) = 0 from rfl, e2] at e1 hblk
    rw [e1]
    have hcon := AnyQ.slices_ContainsFunc Tryd.lays93 2 Tryd.isAgg73 Tryd.sizeOf73 encDrop (fun _ => rfl) (fun x => !(inn x.1 1 lim)) 94 #[.pointer (some ⟨B, 0, none⟩)] eg ad.block ad.off zs.length c zs w
      (pred94 lim B w hB hcell) (Nat.le_refl _) h.1 hblk (fun j hj i v hi => by
        have h2 := hc j hj i v hi
        rw [e1, addp, ← Nat.add_assoc] at h2
        exact h2)
    rw [List.take_length] at hcon
    exact hcon

def aDrop (floors : Int) (zs : List (Int × Bool)) : Bool := inn floors 0 1000 && decide (zs.length ≤ 1000) && !(zs.any fun x => !(inn x.1 1 floors))
theorem areDrop (A : Option Addr) (c : Nat) (zs : List (Int × Bool)) (floors : Int) (w : World) (h : RowDrop w A zs) :
    Calls Tryd.prog 61 #[.int .i64 floors, .slice A zs.length c] w fun e w' => e = .returned (.bool (aDrop floors zs)) ∧ Below w.heap.size w w' := by
  unfold aDrop
  have hcon := fun w1 (hb : Below w.heap.size w w1) hB hcell => any93 A c zs floors w.heap.size w1 (rowDrop_below h hb) hB hcell
  clear h
  generalize (zs.any fun x => !(inn x.1 1 floors)) = r at hcon ⊢
  cases hr : inn floors 0 1000 with
  | true =>
    by_cases hl : zs.length ≤ 1000
    · have hl1 : decide ((zs.length : Int) ≤ 1000) = true := decide_eq_true (by omega)
      rw [show decide (zs.length ≤ 1000) = true from decide_eq_true hl]
      go_enter Tryd.func61, Tryd.ntmps61
      go_wp2_with (first | (go_at_call 92; refine (isFloors_all _ _).mono ?_; rw [hr]; rintro e w' ⟨rfl, rfl⟩) | (go_at_call 93; refine (hcon _ ((Below.refl _ w).alloc (Nat.le_refl _) _) (by simp) (by simp)).mono ?_; rintro e w' ⟨rfl, hb'⟩))
      go_ret
      exact ⟨by simp, ((Below.refl _ w).alloc (Nat.le_refl _) _).trans (hb'.mono (by simp))⟩
    · have hl1 : decide ((zs.length : Int) ≤ 1000) = false := decide_eq_false (by omega)
      rw [show decide (zs.length ≤ 1000) = false from decide_eq_false hl]
      have hl2 : ¬ ((zs.length : Int) ≤ 1000) := by omega
      clear hl
      go_enter Tryd.func61, Tryd.ntmps61
      go_wp2_with (first | (go_at_call 92; refine (isFloors_all _ _).mono ?_; rw [hr]; rintro e w' ⟨rfl, rfl⟩))
      go_ret
      exact ⟨by simp, (Below.refl _ w).alloc (Nat.le_refl _) _⟩
  | false =>
    go_enter Tryd.func61, Tryd.ntmps61
    go_wp2_with (first | (go_at_call 92; refine (isFloors_all _ _).mono ?_; rw [hr]; rintro e w' ⟨rfl, rfl⟩))
    go_ret
    exact ⟨by simp, (Below.refl _ w).alloc (Nat.le_refl _) _⟩

def encKind (x : Bool × Int × Bool) : List Value := [.bool x.1, .int .i64 x.2.1, .bool x.2.2]
/-- A row of such structs: its cells. -/
def RowKind (w : World) (A : Option Addr) (zs : List (Bool × Int × Bool)) : Prop := zs.length ≤ 9223372036854775807 ∧ (0 < zs.length → ∃ ad, A = some ad ∧ ∀ j, j < zs.length → ∀ i v, (encKind zs[j]!)[i]? = some v → w.cell? (ad.add (j * 3 + i)) = some v)
theorem rowKind_below {w w1 : World} {A : Option Addr} {zs : List (Bool × Int × Bool)} (h : RowKind w A zs) (hb : Below w.heap.size w w1) : RowKind w1 A zs := ⟨h.1, fun h0 => by
  obtain ⟨ad, e, hc⟩ := h.2 h0
  exact ⟨ad, e, fun j hj i v hi => (hb.cell (World.block_lt_of_cell? w _ (hc j hj i v hi))).trans (hc j hj i v hi)⟩⟩

theorem pred103 (lim : Int) (B : Nat) (w : World) (hB : B < w.heap.size) (hcell : w.cell? ⟨B, 0, none⟩ = some (.int .i64 lim)) :
    PredBelow Tryd.prog 103 #[.pointer (some ⟨B, 0, none⟩)] (fun x => .agg (encKind x).toArray) (fun x => !(inn x.2.1 1 lim)) w := fun W x hb => by
  have hc : W.cell? ⟨B, 0, none⟩ = some (.int .i64 lim) := (hb.cell (p := ⟨B, 0, none⟩) hB).trans hcell
  have hBW : B < W.heap.size := Nat.lt_of_lt_of_le hB hb.size
  have hne : B ≠ W.heap.size := by omega
  show Calls Tryd.prog 103 #[.agg #[.bool x.1, .int .i64 x.2.1, .bool x.2.2], .pointer (some ⟨B, 0, none⟩)] W _
  go_enter Tryd.func103, Tryd.ntmps103
  go_wp2_with (go_at_call 95; refine (within_all _ _ _ _).mono ?_; rintro e w' ⟨rfl, rfl⟩)
  all_goals (go_ret; exact ⟨by simp_all, by first | exact hb.alloc hb.size _ | exact pw_below_drewN (hb.alloc hb.size _) _⟩)

theorem idx_empty122 (a : Option Addr) (c : Nat) (fv : Value) (w : World) : Calls Tryd.prog 122 #[.slice a 0 c, fv] w fun e w' => e = .returned (.int .i64 (-1)) ∧ w' = w := by
  go_enter Tryd.func122, Tryd.ntmps122
  go_wp2
  go_loopg [5, 8] 0 (fun _ _ s8 wr => s8 = .int .i64 0 ∧ wr = w)
  case atStart => exact ⟨rfl, rfl⟩
  case round =>
    obtain ⟨rfl, rfl⟩ := hrel
    go_wp2
    go_ret
    exact ⟨rfl, rfl⟩
theorem any_empty102 (a : Option Addr) (c : Nat) (fv : Value) (w : World) : Calls Tryd.prog 102 #[.slice a 0 c, fv] w fun e w' => e = .returned (.bool false) ∧ w' = w := by
  go_enter Tryd.func102, Tryd.ntmps102
  go_wp2_with (go_at_call 122; refine (idx_empty122 a c fv _).mono ?_; rintro e w' ⟨rfl, rfl⟩)
  go_ret
  exact ⟨rfl, rfl⟩
theorem any102 (A : Option Addr) (c : Nat) (zs : List (Bool × Int × Bool)) (lim : Int) (B : Nat) (w : World) (h : RowKind w A zs) (hB : B < w.heap.size) (hcell : w.cell? ⟨B, 0, none⟩ = some (.int .i64 lim)) :
    Calls Tryd.prog 102 #[.slice A zs.length c, .func (.func 103) #[] #[.pointer (some ⟨B, 0, none⟩)]] w fun e w' => e = .returned (.bool (zs.any fun x => !(inn x.2.1 1 lim))) ∧ Below w.heap.size w w' := by
  have eg : ∀ args w, (callFunc 103 args).run Tryd.prog w = .ok (.enter 103 args) w := enters_of Tryd.func103 (by kernel_rfl) rfl
  by_cases h0 : zs.length = 0
  · obtain rfl := List.length_eq_zero_iff.mp h0
    exact (any_empty102 A c (.func (.func 103) #[] #[.pointer (some ⟨B, 0, none⟩)]) w).mono fun e w' ⟨he, hw⟩ => ⟨he, by subst hw; exact Below.refl _ _⟩
  · obtain ⟨ad, rfl, hc⟩ := h.2 (by omega)
    have h1 := hc 0 (by omega) 0 _ rfl
    obtain ⟨e1, hblk⟩ := cell_spot h1
    have e2 : ad.add 0 = ad := rfl
    rw [show (0 * 3 + 0) = 0 from rfl, e2] at e1 hblk
    rw [e1]
    have hcon := AnyQ.slices_ContainsFunc Tryd.lays102 3 Tryd.isAgg81 Tryd.sizeOf81 encKind (fun _ => rfl) (fun x => !(inn x.2.1 1 lim)) 103 #[.pointer (some ⟨B, 0, none⟩)] eg ad.block ad.off zs.length c zs w
      (pred103 lim B w hB hcell) (Nat.le_refl _) h.1 hblk (fun j hj i v hi => by
        have h2 := hc j hj i v hi
        rw [e1, addp, ← Nat.add_assoc] at h2
        exact h2)
    rw [List.take_length] at hcon
    exact hcon

def aKind (floors : Int) (zs : List (Bool × Int × Bool)) : Bool := inn floors 0 6 && decide (zs.length ≤ 40) && !(zs.any fun x => !(inn x.2.1 1 floors))
theorem areKind (A : Option Addr) (c : Nat) (zs : List (Bool × Int × Bool)) (floors : Int) (w : World) (h : RowKind w A zs) :
    Calls Tryd.prog 70 #[.int .i64 floors, .slice A zs.length c] w fun e w' => e = .returned (.bool (aKind floors zs)) ∧ Below w.heap.size w w' := by
  unfold aKind
  have hcon := fun w1 (hb : Below w.heap.size w w1) hB hcell => any102 A c zs floors w.heap.size w1 (rowKind_below h hb) hB hcell
  clear h
  generalize (zs.any fun x => !(inn x.2.1 1 floors)) = r at hcon ⊢
  cases hr : inn floors 0 6 with
  | true =>
    by_cases hl : zs.length ≤ 40
    · have hl1 : decide ((zs.length : Int) ≤ 40) = true := decide_eq_true (by omega)
      rw [show decide (zs.length ≤ 40) = true from decide_eq_true hl]
      go_enter Tryd.func70, Tryd.ntmps70
      go_wp2_with (first | (go_at_call 101; refine (isKindFloors_all _ _).mono ?_; rw [hr]; rintro e w' ⟨rfl, rfl⟩) | (go_at_call 102; refine (hcon _ ((Below.refl _ w).alloc (Nat.le_refl _) _) (by simp) (by simp)).mono ?_; rintro e w' ⟨rfl, hb'⟩))
      go_ret
      exact ⟨by simp, ((Below.refl _ w).alloc (Nat.le_refl _) _).trans (hb'.mono (by simp))⟩
    · have hl1 : decide ((zs.length : Int) ≤ 40) = false := decide_eq_false (by omega)
      rw [show decide (zs.length ≤ 40) = false from decide_eq_false hl]
      have hl2 : ¬ ((zs.length : Int) ≤ 40) := by omega
      clear hl
      go_enter Tryd.func70, Tryd.ntmps70
      go_wp2_with (first | (go_at_call 101; refine (isKindFloors_all _ _).mono ?_; rw [hr]; rintro e w' ⟨rfl, rfl⟩))
      go_ret
      exact ⟨by simp, (Below.refl _ w).alloc (Nat.le_refl _) _⟩
  | false =>
    go_enter Tryd.func70, Tryd.ntmps70
    go_wp2_with (first | (go_at_call 101; refine (isKindFloors_all _ _).mono ?_; rw [hr]; rintro e w' ⟨rfl, rfl⟩))
    go_ret
    exact ⟨by simp, (Below.refl _ w).alloc (Nat.le_refl _) _⟩
end Go.Proofs.YtbgmhdlmhncdcaaDoor.Hand
