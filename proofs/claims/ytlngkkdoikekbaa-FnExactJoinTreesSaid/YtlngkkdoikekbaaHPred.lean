/- The program's AreWeights, AreDrops and AreKindTests answer what their words say; no conditions. -/
import Derived.Test.YtlngkkdoikekbaaHShelf
import Derived.Lib.SliceRun
import Derived.WalkKit
import Derived.KernelRfl
import Derived.Test.YtlngkkdoikekbaaWWords
namespace Go.Proofs.Ytlngkkdoikekbaa.Hand
open Go Go.Proofs Go.RowKit Go.Shelf Go.Lib Go.Proofs.YtlngkkdoikekbaaW.PrintWords
set_option maxRecDepth 100000

theorem cell_spot {w : World} {a : Addr} {v : Value} (h : w.cell? a = some v) : a = ⟨a.block, a.off, none⟩ ∧ a.block < w.heap.size := by
  refine ⟨?_, World.block_lt_of_cell? w _ h⟩
  unfold World.cell? at h
  split at h
  · split at h
    · exact absurd h (by simp)
    · rename_i hs
      cases a with
      | mk b o s => cases s with
        | none => rfl
        | some x => simp at hs
  · exact absurd h (by simp)

theorem addp (b o n : Nat) : (⟨b, o, none⟩ : Addr).add n = ⟨b, o + n, none⟩ := by unfold Addr.add; split <;> simp_all
def inn (a b c : Int) : Bool := decide (b ≤ a) && decide (a ≤ c)
theorem within_all (a b c : Int) (w : World) : Calls Try.prog 54 #[.int .i64 a, .int .i64 b, .int .i64 c] w fun r w' => r = .returned (.bool (inn a b c)) ∧ w = w' := by
  unfold inn
  by_cases h1 : b ≤ a
  · by_cases h2 : a ≤ c
    · go_enter Try.func54, Try.ntmps54
      go_wp2
      go_ret
      exact ⟨by simp [h1, h2], rfl⟩
    · have h3 : decide (a ≤ c) = false := by simpa using h2
      clear h2
      go_enter Try.func54, Try.ntmps54
      go_wp2
      go_ret
      exact ⟨by simp [h1, h3], rfl⟩
  · have h2 : decide (b ≤ a) = false := by simpa using h1
    clear h1
    go_enter Try.func54, Try.ntmps54
    go_wp2
    go_ret
    exact ⟨by simp [h2], rfl⟩
theorem isFloors_all (a : Int) (w : World) : Calls Try.prog 60 #[.int .i64 a] w fun r w' => r = .returned (.bool (inn a 0 1000)) ∧ w = w' := by
  go_enter Try.func60, Try.ntmps60
  go_wp2_with (go_at_call 54; refine (within_all _ _ _ _).mono ?_; rintro e w' ⟨rfl, rfl⟩)
  go_ret
  exact ⟨rfl, rfl⟩
theorem isKindFloors_all (a : Int) (w : World) : Calls Try.prog 67 #[.int .i64 a] w fun r w' => r = .returned (.bool (inn a 0 6)) ∧ w = w' := by
  go_enter Try.func67, Try.ntmps67
  go_wp2_with (go_at_call 54; refine (within_all _ _ _ _).mono ?_; rintro e w' ⟨rfl, rfl⟩)
  go_ret
  exact ⟨rfl, rfl⟩

theorem pred56 (w : World) : PredAt Try.prog 56 #[] (Value.int .i64) (fun x => !(inn x 0 1000)) w := fun W x hb => by
  show Calls Try.prog 56 #[.int .i64 x] W _
  go_enter Try.func56, Try.ntmps56
  go_wp2_with (go_at_call 54; refine (within_all _ _ _ _).mono ?_; rintro e w' ⟨rfl, rfl⟩)
  all_goals (go_ret; exact ⟨by simp_all, 0, rfl⟩)

/-- A row of whole numbers: its cells. -/
def RowI (w : World) (A : Option Addr) (zs : List Int) : Prop := zs.length ≤ 9223372036854775807 ∧ (0 < zs.length → ∃ ad, A = some ad ∧ ∀ j, j < zs.length → w.cell? (ad.add j) = some (.int .i64 (zs.getD j 0)))

theorem any55 (A : Option Addr) (c : Nat) (zs : List Int) (w : World) (h : RowI w A zs) :
    Calls Try.prog 55 #[.slice A zs.length c, .func (.func 56) #[] #[]] w fun e w' => e = .returned (.bool (zs.any fun x => !(inn x 0 1000))) ∧ ∃ q, w' = w.drewN q := by
  have eg : ∀ args w, (callFunc 56 args).run Try.prog w = .ok (.enter 56 args) w := enters_of Try.func56 (by kernel_rfl) rfl
  by_cases h0 : zs.length = 0
  · obtain rfl := List.length_eq_zero_iff.mp h0
    have hcon := AnyE.slices_ContainsFunc_empty Try.lays55 A c (.func (.func 56) #[] #[]) w
    exact hcon.mono fun e w' ⟨he, hw⟩ => ⟨he, 0, hw⟩
  · obtain ⟨ad, rfl, hc⟩ := h.2 (by omega)
    have h1 := hc 0 (by omega)
    obtain ⟨e1, _⟩ := cell_spot h1
    have e2 : ad.add 0 = ad := rfl
    rw [e2] at e1
    rw [e1]
    have hcon := AnyE.slices_ContainsFunc Try.lays55 (Value.int .i64) (fun x => !(inn x 0 1000)) 56 #[] eg ad.block ad.off zs.length c zs w (pred56 w) (Nat.le_refl _) h.1 (fun j hj => by
      have h2 := hc j hj
      rw [e1, addp] at h2
      rw [h2, List.getD_eq_getElem?_getD, List.getElem!_eq_getElem?_getD]; rfl)
    rw [List.take_length] at hcon
    exact hcon

def aw (zs : List Int) : Bool := inn zs.length 1 31 && !(zs.any fun x => !(inn x 0 1000))
theorem areWeights (A : Option Addr) (c : Nat) (zs : List Int) (w : World) (h : RowI w A zs) :
    Calls Try.prog 17 #[.slice A zs.length c] w fun e w' => e = .returned (.bool (aw zs)) ∧ Below w.heap.size w w' := by
  unfold aw
  have hcon := fun w1 (hb : Below w.heap.size w w1) => any55 A c zs w1 ⟨h.1, fun h0 => by
    obtain ⟨ad, e, hc⟩ := h.2 h0
    exact ⟨ad, e, fun j hj => (hb.cell (World.block_lt_of_cell? w _ (hc j hj))).trans (hc j hj)⟩⟩
  clear h
  generalize (zs.any fun x => !(inn x 0 1000)) = r at hcon ⊢
  have HB := Aside0.mk (Below.refl w.heap.size w)
  cases hr : inn zs.length 1 31 with
  | true =>
    go_enter Try.func17, Try.ntmps17
    go_wp2_with (first | (go_at_call 54; refine (within_all _ _ _ _).mono ?_; rw [hr]; rintro e w' ⟨rfl, rfl⟩) | (go_at_call 55; refine (hcon _ (by repeat (first | exact Below.refl _ _ | apply pw_below_drewN | apply below_drew1))).mono ?_; rintro e w' ⟨rfl, q, rfl⟩))
    go_ret
    exact ⟨by simp, by repeat (first | exact Below.refl _ _ | apply pw_below_drewN | apply below_drew1)⟩
  | false =>
    go_enter Try.func17, Try.ntmps17
    go_wp2_with (first | (go_at_call 54; refine (within_all _ _ _ _).mono ?_; rw [hr]; rintro e w' ⟨rfl, rfl⟩))
    go_ret
    exact ⟨by simp, by repeat (first | exact Below.refl _ _ | apply pw_below_drewN | apply below_drew1)⟩

def encDrop (x : Int × Bool) : List Value := [.int .i64 x.1, .bool x.2]
/-- A row of such structs: its cells. -/
def RowDrop (w : World) (A : Option Addr) (zs : List (Int × Bool)) : Prop := zs.length ≤ 9223372036854775807 ∧ (0 < zs.length → ∃ ad, A = some ad ∧ ∀ j, j < zs.length → ∀ i v, (encDrop zs[j]!)[i]? = some v → w.cell? (ad.add (j * 2 + i)) = some v)
theorem rowDrop_below {w w1 : World} {A : Option Addr} {zs : List (Int × Bool)} (h : RowDrop w A zs) (hb : Below w.heap.size w w1) : RowDrop w1 A zs := ⟨h.1, fun h0 => by
  obtain ⟨ad, e, hc⟩ := h.2 h0
  exact ⟨ad, e, fun j hj i v hi => (hb.cell (World.block_lt_of_cell? w _ (hc j hj i v hi))).trans (hc j hj i v hi)⟩⟩

theorem pred62 (lim : Int) (B : Nat) (w : World) (hB : B < w.heap.size) (hcell : w.cell? ⟨B, 0, none⟩ = some (.int .i64 lim)) :
    PredBelow Try.prog 62 #[.pointer (some ⟨B, 0, none⟩)] (fun x => .agg (encDrop x).toArray) (fun x => !(inn x.1 1 lim)) w := fun W x hb => by
  have hc : W.cell? ⟨B, 0, none⟩ = some (.int .i64 lim) := (hb.cell (p := ⟨B, 0, none⟩) hB).trans hcell
  have hBW : B < W.heap.size := Nat.lt_of_lt_of_le hB hb.size
  have hne : B ≠ W.heap.size := by omega
  show Calls Try.prog 62 #[.agg #[.int .i64 x.1, .bool x.2], .pointer (some ⟨B, 0, none⟩)] W _
  go_enter Try.func62, Try.ntmps62
  go_wp2_with (go_at_call 54; refine (within_all _ _ _ _).mono ?_; rintro e w' ⟨rfl, rfl⟩)
  all_goals (go_ret; exact ⟨by simp_all, by first | exact hb.alloc hb.size _ | exact pw_below_drewN (hb.alloc hb.size _) _⟩)

theorem idx_empty100 (a : Option Addr) (c : Nat) (fv : Value) (w : World) : Calls Try.prog 100 #[.slice a 0 c, fv] w fun e w' => e = .returned (.int .i64 (-1)) ∧ w' = w := by
  go_enter Try.func100, Try.ntmps100
  go_wp2
  go_loopg [5, 8] 0 (fun _ _ s8 wr => s8 = .int .i64 0 ∧ wr = w)
  case atStart => exact ⟨rfl, rfl⟩
  case round =>
    obtain ⟨rfl, rfl⟩ := hrel
    go_wp2
    go_ret
    exact ⟨rfl, rfl⟩
theorem any_empty61 (a : Option Addr) (c : Nat) (fv : Value) (w : World) : Calls Try.prog 61 #[.slice a 0 c, fv] w fun e w' => e = .returned (.bool false) ∧ w' = w := by
  go_enter Try.func61, Try.ntmps61
  go_wp2_with (go_at_call 100; refine (idx_empty100 a c fv _).mono ?_; rintro e w' ⟨rfl, rfl⟩)
  go_ret
  exact ⟨rfl, rfl⟩
theorem any61 (A : Option Addr) (c : Nat) (zs : List (Int × Bool)) (lim : Int) (B : Nat) (w : World) (h : RowDrop w A zs) (hB : B < w.heap.size) (hcell : w.cell? ⟨B, 0, none⟩ = some (.int .i64 lim)) :
    Calls Try.prog 61 #[.slice A zs.length c, .func (.func 62) #[] #[.pointer (some ⟨B, 0, none⟩)]] w fun e w' => e = .returned (.bool (zs.any fun x => !(inn x.1 1 lim))) ∧ Below w.heap.size w w' := by
  have eg : ∀ args w, (callFunc 62 args).run Try.prog w = .ok (.enter 62 args) w := enters_of Try.func62 (by kernel_rfl) rfl
  by_cases h0 : zs.length = 0
  · obtain rfl := List.length_eq_zero_iff.mp h0
    exact (any_empty61 A c (.func (.func 62) #[] #[.pointer (some ⟨B, 0, none⟩)]) w).mono fun e w' ⟨he, hw⟩ => ⟨he, by subst hw; exact Below.refl _ _⟩
  · obtain ⟨ad, rfl, hc⟩ := h.2 (by omega)
    have h1 := hc 0 (by omega) 0 _ rfl
    obtain ⟨e1, hblk⟩ := cell_spot h1
    have e2 : ad.add 0 = ad := rfl
    rw [show (0 * 2 + 0) = 0 from rfl, e2] at e1 hblk
    rw [e1]
    have hcon := AnyQ.slices_ContainsFunc Try.lays61 2 Try.isAgg66 Try.sizeOf66 encDrop (fun _ => rfl) (fun x => !(inn x.1 1 lim)) 62 #[.pointer (some ⟨B, 0, none⟩)] eg ad.block ad.off zs.length c zs w
      (pred62 lim B w hB hcell) (Nat.le_refl _) h.1 hblk (fun j hj i v hi => by
        have h2 := hc j hj i v hi
        rw [e1, addp, ← Nat.add_assoc] at h2
        exact h2)
    rw [List.take_length] at hcon
    exact hcon

def aDrop (floors : Int) (zs : List (Int × Bool)) : Bool := inn floors 0 1000 && decide (zs.length ≤ 1000) && !(zs.any fun x => !(inn x.1 1 floors))
theorem areDrop (A : Option Addr) (c : Nat) (zs : List (Int × Bool)) (floors : Int) (w : World) (h : RowDrop w A zs) :
    Calls Try.prog 22 #[.int .i64 floors, .slice A zs.length c] w fun e w' => e = .returned (.bool (aDrop floors zs)) ∧ Below w.heap.size w w' := by
  unfold aDrop
  have hcon := fun w1 (hb : Below w.heap.size w w1) hB hcell => any61 A c zs floors w.heap.size w1 (rowDrop_below h hb) hB hcell
  clear h
  generalize (zs.any fun x => !(inn x.1 1 floors)) = r at hcon ⊢
  cases hr : inn floors 0 1000 with
  | true =>
    by_cases hl : zs.length ≤ 1000
    · have hl1 : decide ((zs.length : Int) ≤ 1000) = true := decide_eq_true (by omega)
      rw [show decide (zs.length ≤ 1000) = true from decide_eq_true hl]
      go_enter Try.func22, Try.ntmps22
      go_wp2_with (first | (go_at_call 60; refine (isFloors_all _ _).mono ?_; rw [hr]; rintro e w' ⟨rfl, rfl⟩) | (go_at_call 61; refine (hcon _ ((Below.refl _ w).alloc (Nat.le_refl _) _) (by simp) (by simp)).mono ?_; rintro e w' ⟨rfl, hb'⟩))
      go_ret
      exact ⟨by simp, ((Below.refl _ w).alloc (Nat.le_refl _) _).trans (hb'.mono (by simp))⟩
    · have hl1 : decide ((zs.length : Int) ≤ 1000) = false := decide_eq_false (by omega)
      rw [show decide (zs.length ≤ 1000) = false from decide_eq_false hl]
      have hl2 : ¬ ((zs.length : Int) ≤ 1000) := by omega
      clear hl
      go_enter Try.func22, Try.ntmps22
      go_wp2_with (first | (go_at_call 60; refine (isFloors_all _ _).mono ?_; rw [hr]; rintro e w' ⟨rfl, rfl⟩))
      go_ret
      exact ⟨by simp, (Below.refl _ w).alloc (Nat.le_refl _) _⟩
  | false =>
    go_enter Try.func22, Try.ntmps22
    go_wp2_with (first | (go_at_call 60; refine (isFloors_all _ _).mono ?_; rw [hr]; rintro e w' ⟨rfl, rfl⟩))
    go_ret
    exact ⟨by simp, (Below.refl _ w).alloc (Nat.le_refl _) _⟩

def encKind (x : Bool × Int × Bool) : List Value := [.bool x.1, .int .i64 x.2.1, .bool x.2.2]
/-- A row of such structs: its cells. -/
def RowKind (w : World) (A : Option Addr) (zs : List (Bool × Int × Bool)) : Prop := zs.length ≤ 9223372036854775807 ∧ (0 < zs.length → ∃ ad, A = some ad ∧ ∀ j, j < zs.length → ∀ i v, (encKind zs[j]!)[i]? = some v → w.cell? (ad.add (j * 3 + i)) = some v)
theorem rowKind_below {w w1 : World} {A : Option Addr} {zs : List (Bool × Int × Bool)} (h : RowKind w A zs) (hb : Below w.heap.size w w1) : RowKind w1 A zs := ⟨h.1, fun h0 => by
  obtain ⟨ad, e, hc⟩ := h.2 h0
  exact ⟨ad, e, fun j hj i v hi => (hb.cell (World.block_lt_of_cell? w _ (hc j hj i v hi))).trans (hc j hj i v hi)⟩⟩

theorem pred69 (lim : Int) (B : Nat) (w : World) (hB : B < w.heap.size) (hcell : w.cell? ⟨B, 0, none⟩ = some (.int .i64 lim)) :
    PredBelow Try.prog 69 #[.pointer (some ⟨B, 0, none⟩)] (fun x => .agg (encKind x).toArray) (fun x => !(inn x.2.1 1 lim)) w := fun W x hb => by
  have hc : W.cell? ⟨B, 0, none⟩ = some (.int .i64 lim) := (hb.cell (p := ⟨B, 0, none⟩) hB).trans hcell
  have hBW : B < W.heap.size := Nat.lt_of_lt_of_le hB hb.size
  have hne : B ≠ W.heap.size := by omega
  show Calls Try.prog 69 #[.agg #[.bool x.1, .int .i64 x.2.1, .bool x.2.2], .pointer (some ⟨B, 0, none⟩)] W _
  go_enter Try.func69, Try.ntmps69
  go_wp2_with (go_at_call 54; refine (within_all _ _ _ _).mono ?_; rintro e w' ⟨rfl, rfl⟩)
  all_goals (go_ret; exact ⟨by simp_all, by first | exact hb.alloc hb.size _ | exact pw_below_drewN (hb.alloc hb.size _) _⟩)

theorem idx_empty103 (a : Option Addr) (c : Nat) (fv : Value) (w : World) : Calls Try.prog 103 #[.slice a 0 c, fv] w fun e w' => e = .returned (.int .i64 (-1)) ∧ w' = w := by
  go_enter Try.func103, Try.ntmps103
  go_wp2
  go_loopg [5, 8] 0 (fun _ _ s8 wr => s8 = .int .i64 0 ∧ wr = w)
  case atStart => exact ⟨rfl, rfl⟩
  case round =>
    obtain ⟨rfl, rfl⟩ := hrel
    go_wp2
    go_ret
    exact ⟨rfl, rfl⟩
theorem any_empty68 (a : Option Addr) (c : Nat) (fv : Value) (w : World) : Calls Try.prog 68 #[.slice a 0 c, fv] w fun e w' => e = .returned (.bool false) ∧ w' = w := by
  go_enter Try.func68, Try.ntmps68
  go_wp2_with (go_at_call 103; refine (idx_empty103 a c fv _).mono ?_; rintro e w' ⟨rfl, rfl⟩)
  go_ret
  exact ⟨rfl, rfl⟩
theorem any68 (A : Option Addr) (c : Nat) (zs : List (Bool × Int × Bool)) (lim : Int) (B : Nat) (w : World) (h : RowKind w A zs) (hB : B < w.heap.size) (hcell : w.cell? ⟨B, 0, none⟩ = some (.int .i64 lim)) :
    Calls Try.prog 68 #[.slice A zs.length c, .func (.func 69) #[] #[.pointer (some ⟨B, 0, none⟩)]] w fun e w' => e = .returned (.bool (zs.any fun x => !(inn x.2.1 1 lim))) ∧ Below w.heap.size w w' := by
  have eg : ∀ args w, (callFunc 69 args).run Try.prog w = .ok (.enter 69 args) w := enters_of Try.func69 (by kernel_rfl) rfl
  by_cases h0 : zs.length = 0
  · obtain rfl := List.length_eq_zero_iff.mp h0
    exact (any_empty68 A c (.func (.func 69) #[] #[.pointer (some ⟨B, 0, none⟩)]) w).mono fun e w' ⟨he, hw⟩ => ⟨he, by subst hw; exact Below.refl _ _⟩
  · obtain ⟨ad, rfl, hc⟩ := h.2 (by omega)
    have h1 := hc 0 (by omega) 0 _ rfl
    obtain ⟨e1, hblk⟩ := cell_spot h1
    have e2 : ad.add 0 = ad := rfl
    rw [show (0 * 3 + 0) = 0 from rfl, e2] at e1 hblk
    rw [e1]
    have hcon := AnyQ.slices_ContainsFunc Try.lays68 3 Try.isAgg73 Try.sizeOf73 encKind (fun _ => rfl) (fun x => !(inn x.2.1 1 lim)) 69 #[.pointer (some ⟨B, 0, none⟩)] eg ad.block ad.off zs.length c zs w
      (pred69 lim B w hB hcell) (Nat.le_refl _) h.1 hblk (fun j hj i v hi => by
        have h2 := hc j hj i v hi
        rw [e1, addp, ← Nat.add_assoc] at h2
        exact h2)
    rw [List.take_length] at hcon
    exact hcon

def aKind (floors : Int) (zs : List (Bool × Int × Bool)) : Bool := inn floors 0 6 && decide (zs.length ≤ 40) && !(zs.any fun x => !(inn x.2.1 1 floors))
theorem areKind (A : Option Addr) (c : Nat) (zs : List (Bool × Int × Bool)) (floors : Int) (w : World) (h : RowKind w A zs) :
    Calls Try.prog 27 #[.int .i64 floors, .slice A zs.length c] w fun e w' => e = .returned (.bool (aKind floors zs)) ∧ Below w.heap.size w w' := by
  unfold aKind
  have hcon := fun w1 (hb : Below w.heap.size w w1) hB hcell => any68 A c zs floors w.heap.size w1 (rowKind_below h hb) hB hcell
  clear h
  generalize (zs.any fun x => !(inn x.2.1 1 floors)) = r at hcon ⊢
  cases hr : inn floors 0 6 with
  | true =>
    by_cases hl : zs.length ≤ 40
    · have hl1 : decide ((zs.length : Int) ≤ 40) = true := decide_eq_true (by omega)
      rw [show decide (zs.length ≤ 40) = true from decide_eq_true hl]
      go_enter Try.func27, Try.ntmps27
      go_wp2_with (first | (go_at_call 67; refine (isKindFloors_all _ _).mono ?_; rw [hr]; rintro e w' ⟨rfl, rfl⟩) | (go_at_call 68; refine (hcon _ ((Below.refl _ w).alloc (Nat.le_refl _) _) (by simp) (by simp)).mono ?_; rintro e w' ⟨rfl, hb'⟩))
      go_ret
      exact ⟨by simp, ((Below.refl _ w).alloc (Nat.le_refl _) _).trans (hb'.mono (by simp))⟩
    · have hl1 : decide ((zs.length : Int) ≤ 40) = false := decide_eq_false (by omega)
      rw [show decide (zs.length ≤ 40) = false from decide_eq_false hl]
      have hl2 : ¬ ((zs.length : Int) ≤ 40) := by omega
      clear hl
      go_enter Try.func27, Try.ntmps27
      go_wp2_with (first | (go_at_call 67; refine (isKindFloors_all _ _).mono ?_; rw [hr]; rintro e w' ⟨rfl, rfl⟩))
      go_ret
      exact ⟨by simp, (Below.refl _ w).alloc (Nat.le_refl _) _⟩
  | false =>
    go_enter Try.func27, Try.ntmps27
    go_wp2_with (first | (go_at_call 67; refine (isKindFloors_all _ _).mono ?_; rw [hr]; rintro e w' ⟨rfl, rfl⟩))
    go_ret
    exact ⟨by simp, (Below.refl _ w).alloc (Nat.le_refl _) _⟩
end Go.Proofs.Ytlngkkdoikekbaa.Hand
