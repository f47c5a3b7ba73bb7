/- The program's AreRounds: what it answers for rows of rows of whole numbers; no conditions beyond those stated. -/
import Derived.Test.YtbgmhdlmhncdcaaDoorProg
import Derived.Lib.SliceRun
import Derived.Below
import Derived.Shelf.Abstract
import Derived.WalkKit
import Derived.KernelRfl
import Derived.Deep.LoopGhost
import Derived.Lib.Hide
import Derived.Deep.Draws
import Derived.Test.YtbgmhdlmhncdcaaDoorWWords
import Derived.Test.YtbgmhdlmhncdcaaDoorWMore
import Derived.Test.YtbgmhdlmhncdcaaDoorWLast
namespace Go.Proofs.YtbgmhdlmhncdcaaDoor.Rd
open Go Go.Proofs Go.RowKit Go.Shelf Go.Lib Go.Proofs.YtbgmhdlmhncdcaaDoorW.PrintWords Go.Proofs.YtbgmhdlmhncdcaaDoorW.PrintMore Go.Proofs.YtbgmhdlmhncdcaaDoorW.PrintLast
set_option maxRecDepth 100000
set_option linter.unusedVariables false
set_option linter.unusedSimpArgs false

def inn (a b c : Int) : Bool := decide (b ≤ a) && decide (a ≤ c)
theorem within_all (a b c : Int) (w : World) : Calls Tryd.prog 95 #[.int .i64 a, .int .i64 b, .int .i64 c] w fun r w' => r = .returned (.bool (inn a b c)) ∧ w = w' := by
  unfold inn
  by_cases h1 : b ≤ a
  · by_cases h2 : a ≤ c
    · go_enter Tryd.func95, Tryd.ntmps95
      go_wp2
      go_ret
      exact ⟨by simp [h1, h2], rfl⟩
    · have h3 : decide (a ≤ c) = false := by simpa using h2
      clear h2
      go_enter Tryd.func95, Tryd.ntmps95
      go_wp2
      go_ret
      exact ⟨by simp [h1, h3], rfl⟩
  · have h2 : decide (b ≤ a) = false := by simpa using h1
    clear h1
    go_enter Tryd.func95, Tryd.ntmps95
    go_wp2
    go_ret
    exact ⟨by simp [h2], rfl⟩
theorem isHands_all (a : Int) (w : World) : Calls Tryd.prog 113 #[.int .i64 a] w fun r w' => r = .returned (.bool (inn a 1 10)) ∧ w = w' := by
  go_enter Tryd.func113, Tryd.ntmps113
  go_wp2_with (go_at_call 95; refine (within_all _ _ _ _).mono ?_; rintro e w' ⟨rfl, rfl⟩)
  go_ret
  exact ⟨rfl, rfl⟩
theorem int_cell {w : World} {A : Option Addr} {l : List Int} (h : Kd.C (Kd.int .i64) w A l.length l) (j : Nat) (hj : j < l.length) : ∃ ad, A = some ad ∧ w.cell? (ad.add j) = some (.int .i64 l[j]) := by
  obtain ⟨ad, e, hc⟩ := h.2.2 (by omega)
  obtain ⟨c, _, hK, hcell⟩ := hc j l[j] (List.getElem?_eq_getElem hj)
  have hK2 : c = [.int .i64 l[j]] := hK
  subst hK2
  refine ⟨ad, e, ?_⟩
  have h2 : w.cell? (ad.add (j * 1 + 0)) = some (.int .i64 l[j]) := hcell 0 _ rfl
  rwa [Nat.mul_one, Nat.add_zero] at h2

/-- The number at a place is a floor, and more than the one ahead of it. -/
def okAt (fl : Int) (l : List Int) (i : Nat) : Bool := inn (l.getD i 0) 1 fl && (decide (i = 0) || decide (l.getD (i - 1) 0 < l.getD i 0))
def rising (fl : Int) (l : List Int) : Bool := (List.range' 0 l.length).all (okAt fl l)
theorem rising_no {fl : Int} {l : List Int} {i : Nat} (h : i < l.length) (ho : okAt fl l i = false) : rising fl l = false := by
  unfold rising
  rw [List.all_eq_false]
  exact ⟨i, by rw [List.mem_range'_1]; omega, by rw [ho]; decide⟩
theorem rising_yes {fl : Int} {l : List Int} (h : ∀ j, j < l.length → okAt fl l j = true) : rising fl l = true := by
  unfold rising
  rw [List.all_eq_true]
  intro j hj
  rw [List.mem_range'_1] at hj
  exact h j (by omega)
theorem getD_at (l : List Int) (i : Nat) (h : i < l.length) : l.getD i 0 = l[i] := by rw [List.getD_eq_getElem?_getD, List.getElem?_eq_getElem h]; rfl
set_option maxHeartbeats 2000000 in
theorem areRising_calls (A : Option Addr) (c : Nat) (l : List Int) (fl : Int) (w : World) (h : Kd.C (Kd.int .i64) w A l.length l) :
    Calls Tryd.prog 116 #[.int .i64 fl, .slice A l.length c] w fun e w' => e = .returned (.bool (rising fl l)) ∧ ∃ q, w' = w.drewN q := by
  have HC := Lib.hid h
  have hmax := Lib.hid h.2.1
  clear h
  go_enter Tryd.func116, Tryd.ntmps116
  go_wp2
  go_loopg [5, 6, 9] l.length (fun gg _ _ s9 wr => ∃ i q : Nat, i ≤ l.length ∧ l.length - i ≤ gg ∧ s9 = .int .i64 i ∧ wr = w.drewN q ∧ Aside (∀ j, j < i → okAt fl l j = true))
  case atStart => exact ⟨0, 0, Nat.zero_le _, by omega, rfl, rfl, fun j hj => absurd hj (Nat.not_lt_zero _)⟩
  case round =>
    obtain ⟨i, q, hi, hg, rfl, rfl, HA⟩ := hrel
    by_cases hlt : i < l.length
    · obtain ⟨ad, rfl, hcell⟩ := int_cell HC.out i hlt
      have hlt2 : (i : Int) < (l.length : Int) := by omega
      have hm := hmax.out
      have hw : wrap64 ((i : Int) + 1) = ((i + 1 : Nat) : Int) := by unfold wrap64; omega
      have hw1 : IntKind.i64.wrap ((i : Int) + 1) = ((i + 1 : Nat) : Int) := (i64_w _).trans hw
      clear hm
      obtain ⟨x, hx⟩ : ∃ x, l[i] = x := ⟨_, rfl⟩
      rw [hx] at hcell
      have hgx : l.getD i 0 = x := (getD_at l i hlt).trans hx
      cases hr : inn x 1 fl with
      | false =>
        go_wp2_with (first | (go_at_call 95; refine (within_all _ _ _ _).mono ?_; rw [hr]; rintro e w' ⟨rfl, rfl⟩))
        go_ret
        exact ⟨by rw [rising_no hlt (by unfold okAt; rw [hgx, hr]; rfl)]; first | rfl | (simp; done), _, rfl⟩
      | true =>
        by_cases h0 : i = 0
        · subst h0
          have hz : ¬ ((0 : Nat) : Int) > 0 := by omega
          have hcell0 : w.cell? ad = some (.int .i64 x) := hcell
          have hok : okAt fl l 0 = true := by unfold okAt; rw [hgx, hr]; rfl
          go_wp2_with (first | (go_at_call 95; refine (within_all _ _ _ _).mono ?_; rw [hr]; rintro e w' ⟨rfl, rfl⟩))
          go_roundg (l.length - (0 + 1))
          case measure => omega
          case rel =>
            refine ⟨0 + 1, _, by omega, by omega, by go_num, rfl, (show Aside _ from fun j hj => ?_)⟩
            obtain rfl : j = 0 := by omega
            exact hok
        · have hz : (i : Int) > 0 := by omega
          obtain ⟨ad', e', hcell'⟩ := int_cell HC.out (i - 1) (by omega)
          obtain rfl : ad = ad' := Option.some.inj e'
          clear e'
          obtain ⟨y, hy⟩ : ∃ y, l[i - 1] = y := ⟨_, rfl⟩
          rw [hy] at hcell'
          have hgy : l.getD (i - 1) 0 = y := (getD_at l (i - 1) (by omega)).trans hy
          have hwm : wrap64 ((i : Int) - 1) = ((i - 1 : Nat) : Int) := by have := hmax.out; unfold wrap64; omega
          have hwm1 : IntKind.i64.wrap ((i : Int) - 1) = ((i - 1 : Nat) : Int) := (i64_w _).trans hwm
          have hp : 0 ≤ ((i - 1 : Nat) : Int) := by omega
          have hq : ((i - 1 : Nat) : Int) < (l.length : Int) := by omega
          by_cases hge : y ≥ x
          · have hno : rising fl l = false := rising_no hlt (by unfold okAt; rw [hgx, hgy, hr, decide_eq_false h0, decide_eq_false (by omega)]; rfl)
            go_wp2_with (first | (go_at_call 95; refine (within_all _ _ _ _).mono ?_; rw [hr]; rintro e w' ⟨rfl, rfl⟩))
            go_ret
            exact ⟨by rw [hno]; first | rfl | (simp; done), _, rfl⟩
          · have hok : okAt fl l i = true := by unfold okAt; rw [hgx, hgy, hr, decide_eq_false h0, decide_eq_true (by omega)]; rfl
            go_wp2_with (first | (go_at_call 95; refine (within_all _ _ _ _).mono ?_; rw [hr]; rintro e w' ⟨rfl, rfl⟩))
            go_roundg (l.length - (i + 1))
            case measure => omega
            case rel =>
              refine ⟨i + 1, _, by omega, by omega, by go_num, rfl, (show Aside _ from fun j hj => ?_)⟩
              by_cases e : j = i
              · subst e; exact hok
              · exact HA.out j (by omega)
    · have hlt2 : ¬ (i : Int) < (l.length : Int) := by omega
      have hyes : rising fl l = true := rising_yes fun j hj => HA.out j (by omega)
      go_wp2
      go_ret
      exact ⟨by first | rfl | (simp; done) | (rw [hyes]; rfl), q, rfl⟩

/-- A row that is no told round. -/
def bad (h fl : Int) (x : List Int) : Bool := decide ((x.length : Int) > h) || !(rising fl x)
/-- The values at which the predicate's numbers lie. -/
structure Two (w : World) (B1 B2 : Nat) (h fl : Int) : Prop where
  one : w.cell? ⟨B1, 0, none⟩ = some (.int .i64 h)
  two : w.cell? ⟨B2, 0, none⟩ = some (.int .i64 fl)
theorem pred_calls (A : Option Addr) (c : Nat) (l : List Int) (B1 B2 : Nat) (h fl : Int) (w : World) (hT : Two w B1 B2 h fl) (hC : Kd.C (Kd.int .i64) w A l.length l) :
    Calls Tryd.prog 115 #[.slice A l.length c, .pointer (some ⟨B1, 0, none⟩), .pointer (some ⟨B2, 0, none⟩)] w fun e w' => e = .returned (.bool (bad h fl l)) ∧ ∃ q, w' = w.drewN q := by
  have h1 := hT.one
  have h2 := hT.two
  have HC := Lib.hid hC
  clear hT hC
  unfold bad
  by_cases hl : (l.length : Int) > h
  · have hd : decide ((l.length : Int) > h) = true := decide_eq_true hl
    rw [hd]
    go_enter Tryd.func115, Tryd.ntmps115
    go_wp2
    go_ret
    exact ⟨by first | rfl | (simp; done), 0, rfl⟩
  · have hd : decide ((l.length : Int) > h) = false := decide_eq_false hl
    rw [hd]
    have hcon := fun q => areRising_calls A c l fl (w.drewN q) (Kd.C_drewN HC.out q)
    generalize rising fl l = r at hcon ⊢
    cases r <;> (
      go_enter Tryd.func115, Tryd.ntmps115
      go_wp2_with (go_at_call 116; refine (hcon 0).mono ?_; rintro e w' ⟨rfl, q, rfl⟩)
      go_ret
      exact ⟨by first | rfl | (simp; done), q, rfl⟩)

theorem row_cell {w : World} {A : Option Addr} {ls : List (List Int)} (h : Kd.C (Kd.slice 3 (Kd.int .i64)) w A ls.length ls) (j : Nat) (hj : j < ls.length) :
    ∃ ad A0 c0, A = some ad ∧ w.cell? (ad.add j) = some (.slice A0 ls[j].length c0) ∧ ls[j].length ≤ c0 ∧ Kd.C (Kd.int .i64) w A0 ls[j].length ls[j] := by
  obtain ⟨ad, e, hc⟩ := h.2.2 (by omega)
  obtain ⟨c, _, hK, hcell⟩ := hc j ls[j] (List.getElem?_eq_getElem hj)
  obtain ⟨A0, c0, rfl, h1, h2⟩ := hK
  refine ⟨ad, A0, c0, e, ?_, h1, h2⟩
  have h2 : w.cell? (ad.add (j * 1 + 0)) = some (.slice A0 ls[j].length c0) := hcell 0 _ rfl
  rwa [Nat.mul_one, Nat.add_zero] at h2

set_option maxHeartbeats 1000000 in
theorem idx_calls (A : Option Addr) (c : Nat) (ls : List (List Int)) (B1 B2 : Nat) (h fl : Int) (w : World) (hT : Two w B1 B2 h fl) (hC : Kd.C (Kd.slice 3 (Kd.int .i64)) w A ls.length ls) :
    Calls Tryd.prog 135 #[.slice A ls.length c, .func (.func 115) #[] #[.pointer (some ⟨B1, 0, none⟩), .pointer (some ⟨B2, 0, none⟩)]] w fun e w' => ∃ z : Int, e = .returned (.int .i64 z) ∧ decide (0 ≤ z) = ls.any (bad h fl) ∧ ∃ q, w' = w.drewN q := by
  have HT := Lib.hid hT
  have HC := Lib.hid hC
  have hmax := Lib.hid hC.2.1
  clear hT hC
  have eg : ∀ args w, (callFunc 115 args).run Tryd.prog w = .ok (.enter 115 args) w := enters_of Tryd.func115 (by kernel_rfl) rfl
  go_enter Tryd.func135, Tryd.ntmps135
  go_wp2
  go_loopg [5, 8] ls.length (fun gg _ s8 wr => ∃ kk q : Nat, kk ≤ ls.length ∧ ls.length - kk ≤ gg ∧ s8 = .int .i64 kk ∧ wr = w.drewN q ∧ Aside (∀ j (hj : j < ls.length), j < kk → bad h fl ls[j] = false))
  case atStart => exact ⟨0, 0, Nat.zero_le _, by omega, rfl, rfl, fun j hj h2 => absurd h2 (Nat.not_lt_zero _)⟩
  case round =>
    obtain ⟨kk, q, hkk, hg, rfl, rfl, HA⟩ := hrel
    by_cases hlt : kk < ls.length
    · obtain ⟨ad, A0, c0, rfl, hcell, hl0, hr0⟩ := row_cell HC.out kk hlt
      have hltz : (kk : Int) < (ls.length : Int) := by omega
      have hcon := fun q2 => pred_calls A0 c0 ls[kk] B1 B2 h fl (w.drewN q2) ⟨HT.out.one, HT.out.two⟩ (Kd.C_drewN hr0 q2)
      clear hr0
      have hw : wrap64 ((kk : Int) + 1) = ((kk + 1 : Nat) : Int) := by have := hmax.out; unfold wrap64; omega
      have hw1 : IntKind.i64.wrap ((kk : Int) + 1) = ((kk + 1 : Nat) : Int) := (i64_w _).trans hw
      cases hq : bad h fl ls[kk] with
      | true =>
        rw [hq] at hcon
        go_wp2_with (go_at_fn 115; refine (hcon _).mono ?_; rintro e w' ⟨rfl, q', rfl⟩)
        go_ret
        refine ⟨kk, by first | rfl | (simp; done), ?_, _, rfl⟩
        rw [decide_eq_true (by omega)]
        exact (List.any_eq_true.2 ⟨ls[kk], List.getElem_mem hlt, hq⟩).symm
      | false =>
        rw [hq] at hcon
        go_wp2_with (go_at_fn 115; refine (hcon _).mono ?_; rintro e w' ⟨rfl, q', rfl⟩)
        go_roundg (ls.length - (kk + 1))
        case measure => omega
        case rel =>
          refine ⟨kk + 1, _, by omega, by omega, by go_num, rfl, (show Aside _ from fun j hj h2 => ?_)⟩
          by_cases e : j = kk
          · subst e
            exact hq
          · exact HA.out j hj (by omega)
    · have hltz : ¬ (kk : Int) < (ls.length : Int) := by omega
      have hno : ls.any (bad h fl) = false := by
        rw [List.any_eq_false]
        intro x hx
        obtain ⟨j, hj, rfl⟩ := List.getElem_of_mem hx
        rw [HA.out j hj (by omega)]
        decide
      go_wp2
      go_ret
      exact ⟨-1, by first | rfl | (simp; done), by first | decide | (rw [hno]; rfl) | (simp [hno]; done), q, rfl⟩
theorem any_calls (A : Option Addr) (c : Nat) (ls : List (List Int)) (B1 B2 : Nat) (h fl : Int) (w : World) (hT : Two w B1 B2 h fl) (hC : Kd.C (Kd.slice 3 (Kd.int .i64)) w A ls.length ls) :
    Calls Tryd.prog 114 #[.slice A ls.length c, .func (.func 115) #[] #[.pointer (some ⟨B1, 0, none⟩), .pointer (some ⟨B2, 0, none⟩)]] w fun e w' => e = .returned (.bool (ls.any (bad h fl))) ∧ ∃ q, w' = w.drewN q := by
  have hcon := idx_calls A c ls B1 B2 h fl w hT hC
  clear hT hC
  generalize ls.any (bad h fl) = r at hcon ⊢
  go_enter Tryd.func114, Tryd.ntmps114
  go_wp2_with (go_at_call 135; refine hcon.mono ?_; rintro e w' ⟨z, rfl, hz, q, rfl⟩)
  go_ret
  exact ⟨by rw [← hz]; first | rfl | (simp; done), q, rfl⟩

/-- Told rounds. -/
def told (h fl : Int) (ls : List (List Int)) : Bool := inn h 1 10 && (inn fl 0 1000 && (decide (ls.length ≤ 20) && !(ls.any (bad h fl))))
set_option maxHeartbeats 1000000 in
theorem areRounds_calls (A : Option Addr) (c : Nat) (ls : List (List Int)) (h fl : Int) (w : World) (hC : Kd.C (Kd.slice 3 (Kd.int .i64)) w A ls.length ls) :
    Calls Tryd.prog 84 #[.int .i64 h, .int .i64 fl, .slice A ls.length c] w fun e w' => e = .returned (.bool (told h fl ls)) ∧ Below w.heap.size w w' := by
  have hb0 : Below w.heap.size w ((w.alloc (.cells #[.int .i64 h] 3)).alloc (.cells #[.int .i64 fl] 3)) := ((Below.refl _ w).alloc (Nat.le_refl _) _).alloc (by simp) _
  have hT : Two ((w.alloc (.cells #[.int .i64 h] 3)).alloc (.cells #[.int .i64 fl] 3)) w.heap.size (w.heap.size + 1) h fl := ⟨by go_simp, by go_simp⟩
  have hcon := fun q => any_calls A c ls w.heap.size (w.heap.size + 1) h fl (((w.alloc (.cells #[.int .i64 h] 3)).alloc (.cells #[.int .i64 fl] 3)).drewN q) ⟨hT.one, hT.two⟩ (Kd.C_drewN (Kd.C_below hC hb0) q)
  have HB := Lib.hid hb0
  clear hC hT hb0
  unfold told
  generalize ls.any (bad h fl) = r at hcon ⊢
  cases h1 : inn h 1 10 with
  | false =>
    go_enter Tryd.func84, Tryd.ntmps84
    go_wp2_with (first | (go_at_call 113; refine (isHands_all _ _).mono ?_; rw [h1]; rintro e w' ⟨rfl, rfl⟩))
    go_ret
    exact ⟨by first | rfl | (simp; done), HB.out⟩
  | true =>
    cases h2 : inn fl 0 1000 with
    | false =>
      go_enter Tryd.func84, Tryd.ntmps84
      go_wp2_with (first | (go_at_call 113; refine (isHands_all _ _).mono ?_; rw [h1]; rintro e w' ⟨rfl, rfl⟩) | (go_at_call 95; refine (within_all _ _ _ _).mono ?_; rw [h2]; rintro e w' ⟨rfl, rfl⟩))
      go_ret
      exact ⟨by first | rfl | (simp; done), HB.out⟩
    | true =>
      by_cases hl : ls.length ≤ 20
      · have hl1 : decide ((ls.length : Int) ≤ 20) = true := decide_eq_true (by omega)
        have hl2 : (ls.length : Int) ≤ 20 := by omega
        rw [show decide (ls.length ≤ 20) = true from decide_eq_true hl]
        clear hl
        cases r <;> (
          go_enter Tryd.func84, Tryd.ntmps84
          go_wp2_with (first | (go_at_call 113; refine (isHands_all _ _).mono ?_; rw [h1]; rintro e w' ⟨rfl, rfl⟩) | (go_at_call 95; refine (within_all _ _ _ _).mono ?_; rw [h2]; rintro e w' ⟨rfl, rfl⟩) | (go_at_call 114; refine (hcon 0).mono ?_; rintro e w' ⟨rfl, q, rfl⟩))
          go_ret
          exact ⟨by first | rfl | (simp; done), pw_below_drewN HB.out _⟩)
      · have hl1 : decide ((ls.length : Int) ≤ 20) = false := decide_eq_false (by omega)
        have hl2 : ¬ (ls.length : Int) ≤ 20 := by omega
        rw [show decide (ls.length ≤ 20) = false from decide_eq_false hl]
        clear hl
        go_enter Tryd.func84, Tryd.ntmps84
        go_wp2_with (first | (go_at_call 113; refine (isHands_all _ _).mono ?_; rw [h1]; rintro e w' ⟨rfl, rfl⟩) | (go_at_call 95; refine (within_all _ _ _ _).mono ?_; rw [h2]; rintro e w' ⟨rfl, rfl⟩))
        go_ret
        exact ⟨by first | rfl | (simp; done), HB.out⟩
end Go.Proofs.YtbgmhdlmhncdcaaDoor.Rd
