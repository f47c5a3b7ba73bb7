/- What told rounds say: the program's BrokenByRounds, OpenAfterRounds, DoRoundsSettle; no conditions beyond those stated. -/
import Derived.Test.YtnolocmcjcjjcaaHRd
import Derived.Test.YtnolocmcjcjjcaaHGrow
import Derived.Laws.AppendOwn
namespace Go.Proofs.Ytnolocmcjcjjcaa.Rd
open Go Go.Proofs Go.RowKit Go.Shelf Go.Lib Go.Proofs.YtnolocmcjcjjcaaW.PrintWords Go.Proofs.YtnolocmcjcjjcaaW.PrintMore Go.Proofs.YtnolocmcjcjjcaaW.PrintLast
set_option maxRecDepth 100000
set_option linter.unusedVariables false
set_option linter.unusedSimpArgs false

theorem infoI : (Try.prog.info? 3).map (fun i => (i.zero, i.size, i.bytes)) = some (some (.int .i64 0), 1, 8) := by kernel_rfl
theorem isBreak_all (f b : Int) (w : World) : Calls Try.prog 60 #[.int .i64 f, .int .i64 b] w fun r w' => r = .returned (.bool (inn b 0 f)) ∧ w = w' := by
  go_enter Try.func60, Try.ntmps60
  go_wp2_with (go_at_call 54; refine (within_all _ _ _ _).mono ?_; rintro e w' ⟨rfl, rfl⟩)
  go_ret
  exact ⟨rfl, rfl⟩
theorem reads_of {w : World} {A : Option Addr} {n : Nat} {xs : List Int} (h : Kd.C (Kd.int .i64) w A n xs) : ReadsInt w .i64 A n xs := Kd.reads_of_C (enc := Value.int .i64) (d := (0 : Int)) (h1 := fun _ => rfl) h
theorem own_C {w : World} {base : Nat} {v : Value} {xs : List Int} (h : w.ownsRow base 3 1 v xs.length (nums .i64 xs)) : ∃ A c, v = .slice A xs.length c ∧ xs.length ≤ c ∧ Kd.C (Kd.int .i64) w A xs.length xs :=
  Kd.R_reads (Kd.R_of_own (enc := Value.int .i64) (h1 := fun _ => rfl) (ok := fun _ => True) h (fun _ _ => trivial))
/-- A row that is asked for room comes out empty and of the call's own. -/
theorem grow_some (n : Nat) (w : World) (hn : 0 < n) (hbig : n * 8 ≤ 140737488355328) :
    Calls Try.prog 75 #[.slice none 0 0, .int .i64 n] w fun e w' => ∃ v, e = .returned v ∧ w'.ownsRow w.heap.size 3 1 v 0 [] ∧ Below w.heap.size w w' := by
  obtain ⟨i0, hi, hzz⟩ := Option.map_eq_some_iff.1 infoI
  simp only [Prod.mk.injEq] at hzz
  obtain ⟨hz, hs, hb⟩ := hzz
  have h := Any8.slices_Grow_grow Try.laysGrow i0 (.int .i64 0) hi hz (by omega) none 0 0 n [] w (Nat.le_refl _) (by omega) (by rw [hb]; omega) (by omega) (by simp) (fun _ => rfl) (fun a ha => by cases ha)
  rw [show Try.laysGrow_ren.t 25 = 3 from rfl, show Try.laysGrow_ren.f 4 = 75 from rfl] at h
  refine h.mono ?_
  rintro e w' ⟨rfl, rfl⟩
  have hheap : ∀ o : Obj, (w.drew.alloc o).heap[w.heap.size]? = some o := fun o => Array.getElem?_push_size (xs := w.heap) (x := o)
  refine ⟨.slice (some ⟨w.heap.size, 0, none⟩) 0 (grownCap w (0 + n) 0 3), rfl, ⟨rfl, .inr ⟨w.heap.size, grownCap w (0 + n) 0 3, ([] : List Value).toArray ++ Builtin.zeroCells (Value.int .i64 0).cells (0 + n - 0) ++ Builtin.zeroCells (Value.int .i64 0).cells (grownCap w (0 + n) 0 3 - (0 + n)), rfl, Nat.le_refl _, hheap _, Nat.zero_le _, ?_, ?_, rfl⟩⟩, ?_⟩
  · exact grownCap_le_maxLen _ _ _ _ (by unfold maxLen; omega)
  · have hge := grownCap_ge w (0 + n) 0 3
    have ez : ∀ m, (Builtin.zeroCells (Value.int .i64 0).cells m).size = m := fun m => by simp [Builtin.zeroCells, Value.cells]
    rw [Array.size_append, Array.size_append, ez, ez]
    simp at hge ⊢
    omega
  · exact below_alloc (below_drew1 (Below.refl _ _)) _
theorem grow_none (w : World) : Calls Try.prog 75 #[.slice none 0 0, .int .i64 0] w fun e w' => e = .returned (.slice none 0 0) ∧ w' = w := by
  go_enter Try.func75, Try.ntmps75
  go_wp2
  go_ret
  exact ⟨by first | rfl | (simp; done), rfl⟩
theorem grow_calls (n : Nat) (w : World) (hbig : n * 8 ≤ 140737488355328) :
    Calls Try.prog 75 #[.slice none 0 0, .int .i64 n] w fun e w' => ∃ v, e = .returned v ∧ w'.ownsRow w.heap.size 3 1 v 0 [] ∧ Below w.heap.size w w' := by
  by_cases h : 0 < n
  · exact grow_some n w h hbig
  · obtain rfl : n = 0 := by omega
    exact (grow_none w).mono fun e w' ⟨he, hw⟩ => ⟨_, he, ⟨rfl, .inl ⟨rfl, rfl⟩⟩, by subst hw; exact Below.refl _ _⟩

def flatR (ls : List (List Int)) : List Int := ls.flatten
def sizeR (ls : List (List Int)) : Nat := (flatR ls).length
theorem flat_snoc (ls : List (List Int)) (kk : Nat) (h : kk < ls.length) : flatR (ls.take (kk + 1)) = flatR (ls.take kk) ++ ls[kk] := by
  unfold flatR
  rw [List.take_succ_eq_append_getElem h, List.flatten_append]; simp
theorem size_snoc (ls : List (List Int)) (kk : Nat) (h : kk < ls.length) : sizeR (ls.take (kk + 1)) = sizeR (ls.take kk) + ls[kk].length := by
  unfold sizeR
  rw [flat_snoc ls kk h, List.length_append]
theorem size_le (ls : List (List Int)) (kk : Nat) : sizeR (ls.take kk) ≤ sizeR ls := by
  have h : flatR ls = flatR (ls.take kk) ++ (ls.drop kk).flatten := by unfold flatR; rw [← List.flatten_append, List.take_append_drop]
  unfold sizeR; rw [h, List.length_append]; omega
set_option maxHeartbeats 4000000 in
theorem concat_calls (A : Option Addr) (c : Nat) (ls : List (List Int)) (w : World) (hC : Kd.C (Kd.slice 3 (Kd.int .i64)) w A ls.length ls) (hbig : sizeR ls ≤ 1000000000000) :
    Calls Try.prog 62 #[.slice A ls.length c] w fun e w' => ∃ v, e = .returned v ∧ w'.ownsRow w.heap.size 3 1 v (flatR ls).length (nums .i64 (flatR ls)) ∧ Below w.heap.size w w' := by
  have HC := Lib.hid hC
  have HBIG := Lib.hid hbig
  have HM := Lib.hid hC.2.1
  clear hC hbig
  go_enter Try.func62, Try.ntmps62
  go_wp2
  go_loopg [3, 5, 11] ls.length (fun gg s3 _ s11 wr => ∃ kk q : Nat, kk ≤ ls.length ∧ ls.length - kk ≤ gg ∧ s3 = .int .i64 (sizeR (ls.take kk) : Int) ∧ s11 = .int .i64 kk ∧ wr = w.drewN q)
  case atStart => exact ⟨0, 0, Nat.zero_le _, by omega, rfl, rfl, rfl⟩
  case round =>
    obtain ⟨kk, q, hkk, hg, rfl, rfl, rfl⟩ := hrel
    by_cases hlt : kk < ls.length
    · obtain ⟨ad, A0, c0, rfl, hcell, _, _⟩ := row_cell HC.out kk hlt
      have hltz : (kk : Int) < (ls.length : Int) := by omega
      have hsum : wrap64 ((sizeR (ls.take kk) : Int) + (ls[kk].length : Int)) = (sizeR (ls.take (kk + 1)) : Int) := by
        rw [size_snoc ls kk hlt]; have := size_le ls (kk + 1); rw [size_snoc ls kk hlt] at this; have := HBIG.out; unfold wrap64; omega
      have hsum1 : IntKind.i64.wrap ((sizeR (ls.take kk) : Int) + (ls[kk].length : Int)) = (sizeR (ls.take (kk + 1)) : Int) := (i64_w _).trans hsum
      have hpos : ¬ ((sizeR (ls.take (kk + 1)) : Int) < 0) := by omega
      have hw : wrap64 ((kk : Int) + 1) = ((kk + 1 : Nat) : Int) := by have := HM.out; unfold wrap64; omega
      have hw1 : IntKind.i64.wrap ((kk : Int) + 1) = ((kk + 1 : Nat) : Int) := (i64_w _).trans hw
      go_wp2
      go_roundg (ls.length - (kk + 1))
      case measure => omega
      case rel => exact ⟨kk + 1, _, by omega, by omega, by go_num, by go_num, rfl⟩
    · have hkn : kk = ls.length := by omega
      subst hkn
      have hall : ls.take ls.length = ls := List.take_length
      have hltz : ¬ (ls.length : Int) < (ls.length : Int) := by omega
      rw [hall]
      clear hlt hkk hg
      go_wp2_with (go_at_call 75; refine (grow_calls (sizeR ls) _ (by have := HBIG.out; omega)).mono ?_; rintro e w1 ⟨v, rfl, ho, hb⟩)
      have HO := Lib.hid (show w1.ownsRow w.heap.size 3 1 v (flatR (ls.take 0)).length (nums .i64 (flatR (ls.take 0))) from ho)
      have HB1 := Lib.hid (below_step (pw_below_drewN (Below.refl w.heap.size w) q) hb)
      clear ho hb
      go_loopg [6, 8, 27] ls.length (fun gg s6 _ s27 wr => ∃ kk : Nat, kk ≤ ls.length ∧ ls.length - kk ≤ gg ∧ s27 = .int .i64 kk ∧ Hid (wr.ownsRow w.heap.size 3 1 s6 (flatR (ls.take kk)).length (nums .i64 (flatR (ls.take kk)))) ∧ Hid (Below w.heap.size w wr))
      case atStart => exact ⟨0, Nat.zero_le _, by omega, rfl, HO, HB1⟩
      case round =>
        clear HO HB1
        obtain ⟨kk, hkk, hg, rfl, HO, HB1⟩ := hrel
        by_cases hlt : kk < ls.length
        · obtain ⟨ad, A0, c0, rfl, hcell, _, hrow⟩ := row_cell (Kd.C_below HC.out HB1.out) kk hlt
          have HROW := Lib.hid (reads_of hrow)
          clear hrow
          have hltz : (kk : Int) < (ls.length : Int) := by omega
          have hw : wrap64 ((kk : Int) + 1) = ((kk + 1 : Nat) : Int) := by have := HM.out; unfold wrap64; omega
          have hw1 : IntKind.i64.wrap ((kk : Int) + 1) = ((kk + 1 : Nat) : Int) := (i64_w _).trans hw
          have HLEN := Lib.hid (show ((flatR (ls.take kk)).length + ls[kk].length) * 8 ≤ 140737488355328 by
            have h1 := size_le ls (kk + 1); rw [size_snoc ls kk hlt] at h1; have h2 := HBIG.out; unfold sizeR at h1 h2; omega)
          go_wp2_with ((with_reducible refine gate_builtin (b := .append) (xs := #[.tmp 31, .tmp 32]) rfl ?_); at_builtin; refine print_append_row (w0 := w) w.heap.size rfl (.tmp 31) (.tmp 32) 25 3 .i64 8 rfl Try.underlying25 infoI (by decide) u6 (flatR (ls.take kk)) ls[kk] A0 ls[kk].length c0 rfl rfl HO.out HROW.out HB1.out HB1.out.size HLEN.out ?_; intro v5 w5 ho hb hg2 hat; rw [← flat_snoc ls kk hlt] at ho; have n0_ := Lib.hid hb; have n1_ := Lib.hid ho; clear HB1; clear HO; have HB1 := n0_; have HO := n1_; clear n0_ n1_; clear ho hb hg2 hat)
          go_roundg (ls.length - (kk + 1))
          case measure => omega
          case rel => exact ⟨kk + 1, by omega, by omega, by go_num, HO, HB1⟩
        · have hkn : kk = ls.length := by omega
          subst hkn
          have hltz : ¬ (ls.length : Int) < (ls.length : Int) := by omega
          have hall : ls.take ls.length = ls := List.take_length
          rw [hall] at HO
          go_wp2
          go_ret
          exact ⟨_, rfl, HO.out, HB1.out⟩

/-- How many of the floors are above a break. -/
def cnt (b : Int) (l : List Int) : Nat := (l.filter fun f => decide (f > b)).length
theorem cnt_snoc (b : Int) (l : List Int) (i : Nat) (h : i < l.length) : cnt b (l.take (i + 1)) = cnt b (l.take i) + if l[i] > b then 1 else 0 := by
  unfold cnt
  rw [List.take_succ_eq_append_getElem h, List.filter_append, List.length_append]
  by_cases c : l[i] > b <;> simp [c]
theorem cnt_le (b : Int) (l : List Int) : cnt b l ≤ l.length := List.length_filter_le _ _
set_option maxHeartbeats 1000000 in
theorem above_calls (A : Option Addr) (c : Nat) (l : List Int) (b : Int) (w : World) (hC : Kd.C (Kd.int .i64) w A l.length l) :
    Calls Try.prog 61 #[.slice A l.length c, .int .i64 b] w fun e w' => e = .returned (.int .i64 (cnt b l)) ∧ ∃ q, w' = w.drewN q := by
  have HC := Lib.hid hC
  have HM := Lib.hid hC.2.1
  clear hC
  go_enter Try.func61, Try.ntmps61
  go_wp2
  go_loopg [5, 7, 10] l.length (fun gg s5 _ s10 wr => ∃ i q : Nat, i ≤ l.length ∧ l.length - i ≤ gg ∧ s5 = .int .i64 (cnt b (l.take i) : Int) ∧ s10 = .int .i64 i ∧ wr = w.drewN q)
  case atStart => exact ⟨0, 0, Nat.zero_le _, by omega, rfl, rfl, rfl⟩
  case round =>
    obtain ⟨i, q, hi, hg, rfl, rfl, rfl⟩ := hrel
    by_cases hlt : i < l.length
    · obtain ⟨ad, rfl, hcell⟩ := int_cell HC.out i hlt
      have hltz : (i : Int) < (l.length : Int) := by omega
      have hw : wrap64 ((i : Int) + 1) = ((i + 1 : Nat) : Int) := by have := HM.out; unfold wrap64; omega
      have hw1 : IntKind.i64.wrap ((i : Int) + 1) = ((i + 1 : Nat) : Int) := (i64_w _).trans hw
      have hs := cnt_snoc b l i hlt
      have hcl : cnt b (l.take i) ≤ i := Nat.le_trans (cnt_le _ _) (by rw [List.length_take]; omega)
      by_cases hc : l[i] > b
      · rw [if_pos hc] at hs
        have hwc : wrap64 ((cnt b (l.take i) : Int) + 1) = (cnt b (l.take (i + 1)) : Int) := by have := HM.out; rw [hs]; unfold wrap64; omega
        have hwc1 : IntKind.i64.wrap ((cnt b (l.take i) : Int) + 1) = (cnt b (l.take (i + 1)) : Int) := (i64_w _).trans hwc
        clear hs hcl
        go_wp2
        go_roundg (l.length - (i + 1))
        case measure => omega
        case rel => exact ⟨i + 1, _, by omega, by omega, by go_num, by go_num, rfl⟩
      · rw [if_neg hc, Nat.add_zero] at hs
        clear hcl
        go_wp2
        go_roundg (l.length - (i + 1))
        case measure => omega
        case rel => exact ⟨i + 1, _, by omega, by omega, by rw [hs, Nat.add_zero], by go_num, rfl⟩
    · have hkn : i = l.length := by omega
      subst hkn
      have hltz : ¬ (l.length : Int) < (l.length : Int) := by omega
      have hall : l.take l.length = l := List.take_length
      rw [hall]
      go_wp2
      go_ret
      exact ⟨by first | rfl | (simp; done), q, rfl⟩

/-- Told rounds are few, and their numbers are floors. -/
theorem told_parts {h fl : Int} {ls : List (List Int)} (ht : told h fl ls = true) : (1 ≤ h ∧ h ≤ 10) ∧ (0 ≤ fl ∧ fl ≤ 1000) ∧ ls.length ≤ 20 ∧ ∀ x ∈ ls, (x.length : Int) ≤ h ∧ rising fl x = true := by
  unfold told inn at ht
  simp only [Bool.and_eq_true, decide_eq_true_eq, Bool.not_eq_true', List.any_eq_false] at ht
  obtain ⟨h1, h2, h3, h4⟩ := ht
  refine ⟨h1, h2, h3, fun x hx => ?_⟩
  have h5 := h4 x hx
  unfold bad at h5
  rw [Bool.or_eq_true, decide_eq_true_eq, Bool.not_eq_true'] at h5
  refine ⟨by omega, ?_⟩
  cases hr : rising fl x with
  | true => rfl
  | false => exact absurd (Or.inr hr) h5
theorem rising_floor {fl : Int} {l : List Int} (h : rising fl l = true) : ∀ x ∈ l, 1 ≤ x ∧ x ≤ fl := by
  intro x hx
  obtain ⟨i, hi, rfl⟩ := List.getElem_of_mem hx
  unfold rising at h
  rw [List.all_eq_true] at h
  have h1 := h i (by rw [List.mem_range'_1]; omega)
  unfold okAt inn at h1
  rw [getD_at l i hi] at h1
  simp only [Bool.and_eq_true, decide_eq_true_eq] at h1
  exact h1.1
theorem told_floor {h fl : Int} {ls : List (List Int)} (ht : told h fl ls = true) : ∀ x ∈ flatR ls, 1 ≤ x ∧ x ≤ fl := by
  intro x hx
  obtain ⟨l, hl, hx⟩ := List.mem_flatten.1 hx
  exact rising_floor ((told_parts ht).2.2.2 l hl).2 x hx
theorem flat_bound (n : Nat) : ∀ (ls : List (List Int)), (∀ x ∈ ls, x.length ≤ n) → sizeR ls ≤ ls.length * n := by
  unfold sizeR flatR
  intro ls
  induction ls with
  | nil => intro _; simp
  | cons x xs ih =>
    intro h
    have h1 := ih fun y hy => h y (List.mem_cons_of_mem _ hy)
    have h2 := h x List.mem_cons_self
    rw [List.flatten_cons, List.length_append, List.length_cons, Nat.add_mul]
    omega
theorem told_len {h fl : Int} {ls : List (List Int)} (ht : told h fl ls = true) : sizeR ls ≤ 200 := by
  obtain ⟨h1, h2, h3, h4⟩ := told_parts ht
  have h5 := flat_bound 10 ls fun x hx => by have := (h4 x hx).1; omega
  omega

/-- How many eggs break by told rounds. -/
def broken (h fl : Int) (ls : List (List Int)) (b : Int) : Int × Bool := if told h fl ls && inn b 0 fl then ((cnt b (flatR ls) : Int), true) else (0, false)
set_option maxHeartbeats 1000000 in
theorem broken_calls (A : Option Addr) (c : Nat) (ls : List (List Int)) (h fl b : Int) (w : World) (hC : Kd.C (Kd.slice 3 (Kd.int .i64)) w A ls.length ls) :
    Calls Try.prog 31 #[.int .i64 h, .int .i64 fl, .slice A ls.length c, .int .i64 b] w fun e w' => e = .returned (.tuple #[.int .i64 (broken h fl ls b).1, .bool (broken h fl ls b).2]) ∧ Below w.heap.size w w' := by
  have hare := areRounds_calls A c ls h fl w hC
  have HC := Lib.hid hC
  clear hC
  unfold broken
  cases ht : told h fl ls with
  | false =>
    rw [ht] at hare
    go_enter Try.func31, Try.ntmps31
    go_wp2_with (go_at_call 28; refine hare.mono ?_; rintro e w1 ⟨rfl, hb⟩; have HB := Lib.hid hb; clear hb)
    go_ret2
    exact ⟨by first | rfl | (simp; done), HB.out⟩
  | true =>
    rw [ht] at hare
    have hlen := told_len ht
    cases hi : inn b 0 fl with
    | false =>
      go_enter Try.func31, Try.ntmps31
      go_wp2_with (first | (go_at_call 28; refine hare.mono ?_; rintro e w1 ⟨rfl, hb⟩; have HB := Lib.hid hb; clear hb) | (go_at_call 60; refine (isBreak_all _ _ _).mono ?_; rw [hi]; rintro e w' ⟨rfl, rfl⟩))
      go_ret2
      exact ⟨by first | rfl | (simp; done), HB.out⟩
    | true =>
      rw [if_pos (by rfl)]
      have hcat := fun w1 (hb : Below w.heap.size w w1) => concat_calls A c ls w1 (Kd.C_below HC.out hb) (by omega)
      clear hlen
      generalize flatR ls = F at hcat ⊢
      go_enter Try.func31, Try.ntmps31
      go_wp2_with (first | (go_at_call 28; refine hare.mono ?_; rintro e w1 ⟨rfl, hb⟩; have HB := Lib.hid hb; clear hb) | (go_at_call 60; refine (isBreak_all _ _ _).mono ?_; rw [hi]; rintro e w' ⟨rfl, rfl⟩) | (go_at_call 62; refine (hcat _ (by first | exact HB.out | exact pw_below_drewN HB.out _)).mono ?_; rintro e w2 ⟨v, rfl, ho, hb⟩; have HB2 := Lib.hid (below_step (by first | exact HB.out | exact pw_below_drewN HB.out _) hb); clear hb; obtain ⟨A2, c2, rfl, _, hC2⟩ := own_C ho; clear ho) | (go_at_call 61; refine (above_calls A2 c2 F b _ (by first | exact hC2 | exact Kd.C_drewN hC2 _)).mono ?_; rintro e w3 ⟨rfl, q, rfl⟩))
      go_ret2
      exact ⟨by first | rfl | (simp; done), by first | exact pw_below_drewN HB2.out _ | exact HB2.out⟩

attribute [local go_sem] max2_int min2_int max_two min_two
/-- The least and the greatest break with the same results. -/
def lowOf (b : Int) (l : List Int) : Int := l.foldl (fun a f => if f > b then a else max a f) 0
def highOf (fl b : Int) (l : List Int) : Int := l.foldl (fun a f => if f > b then min a (f - 1) else a) fl
theorem low_snoc (b : Int) (l : List Int) (i : Nat) (h : i < l.length) : lowOf b (l.take (i + 1)) = if l[i] > b then lowOf b (l.take i) else max (lowOf b (l.take i)) l[i] := by
  unfold lowOf
  rw [List.take_succ_eq_append_getElem h, List.foldl_append]; rfl
theorem high_snoc (fl b : Int) (l : List Int) (i : Nat) (h : i < l.length) : highOf fl b (l.take (i + 1)) = if l[i] > b then min (highOf fl b (l.take i)) (l[i] - 1) else highOf fl b (l.take i) := by
  unfold highOf
  rw [List.take_succ_eq_append_getElem h, List.foldl_append]; rfl
def openRes (h fl : Int) (ls : List (List Int)) (b : Int) : Int × Int × Bool := if told h fl ls && inn b 0 fl then (lowOf b (flatR ls), highOf fl b (flatR ls), true) else (0, 0, false)
set_option maxHeartbeats 2000000 in
theorem open_calls (A : Option Addr) (c : Nat) (ls : List (List Int)) (h fl b : Int) (w : World) (hC : Kd.C (Kd.slice 3 (Kd.int .i64)) w A ls.length ls) :
    Calls Try.prog 33 #[.int .i64 h, .int .i64 fl, .slice A ls.length c, .int .i64 b] w fun e w' => e = .returned (.tuple #[.int .i64 (openRes h fl ls b).1, .int .i64 (openRes h fl ls b).2.1, .bool (openRes h fl ls b).2.2]) ∧ Below w.heap.size w w' := by
  have hare := areRounds_calls A c ls h fl w hC
  have HC := Lib.hid hC
  clear hC
  unfold openRes
  cases ht : told h fl ls with
  | false =>
    rw [ht] at hare
    go_enter Try.func33, Try.ntmps33
    go_wp2_with (go_at_call 28; refine hare.mono ?_; rintro e w1 ⟨rfl, hb⟩; have HB := Lib.hid hb; clear hb)
    go_ret3
    exact ⟨by first | rfl | (simp; done), HB.out⟩
  | true =>
    rw [ht] at hare
    have hlen := told_len ht
    have hfl := (told_parts ht).2.1
    have hfs := told_floor ht
    cases hi : inn b 0 fl with
    | false =>
      clear hlen hfl hfs
      go_enter Try.func33, Try.ntmps33
      go_wp2_with (first | (go_at_call 28; refine hare.mono ?_; rintro e w1 ⟨rfl, hb⟩; have HB := Lib.hid hb; clear hb) | (go_at_call 60; refine (isBreak_all _ _ _).mono ?_; rw [hi]; rintro e w' ⟨rfl, rfl⟩))
      go_ret3
      exact ⟨by first | rfl | (simp; done), HB.out⟩
    | true =>
      rw [if_pos (by rfl)]
      have hcat := fun w1 (hb : Below w.heap.size w w1) => concat_calls A c ls w1 (Kd.C_below HC.out hb) (by omega)
      have HL := Lib.hid (show (flatR ls).length ≤ 200 from hlen)
      have HF := Lib.hid hfs
      have HFL := Lib.hid hfl
      clear hlen hfl hfs
      generalize flatR ls = F at hcat HL HF ⊢
      go_enter Try.func33, Try.ntmps33
      go_wp2_with (first | (go_at_call 28; refine hare.mono ?_; rintro e w1 ⟨rfl, hb⟩; have HB := Lib.hid hb; clear hb) | (go_at_call 60; refine (isBreak_all _ _ _).mono ?_; rw [hi]; rintro e w' ⟨rfl, rfl⟩) | (go_at_call 62; refine (hcat _ (by first | exact HB.out | exact pw_below_drewN HB.out _)).mono ?_; rintro e w2 ⟨v, rfl, ho, hb⟩; have HB2 := Lib.hid (below_step (by first | exact HB.out | exact pw_below_drewN HB.out _) hb); clear hb; obtain ⟨A2, c2, rfl, _, hC2⟩ := own_C ho; have HC2 := Lib.hid hC2; clear ho hC2))
      go_loopg [11, 12, 14, 30] F.length (fun gg s11 s12 _ s30 wr => ∃ i q : Nat, i ≤ F.length ∧ F.length - i ≤ gg ∧ s11 = .int .i64 (lowOf b (F.take i)) ∧ s12 = .int .i64 (highOf fl b (F.take i)) ∧ s30 = .int .i64 i ∧ wr = w2.drewN q)
      case atStart => exact ⟨0, 0, Nat.zero_le _, by omega, rfl, rfl, rfl, rfl⟩
      case round =>
        obtain ⟨i, q, hi2, hg, rfl, rfl, rfl, rfl⟩ := hrel
        by_cases hlt : i < F.length
        · obtain ⟨ad, rfl, hcell⟩ := int_cell HC2.out i hlt
          have hltz : (i : Int) < (F.length : Int) := by omega
          have hw : wrap64 ((i : Int) + 1) = ((i + 1 : Nat) : Int) := by have := HL.out; unfold wrap64; omega
          have hw1 : IntKind.i64.wrap ((i : Int) + 1) = ((i + 1 : Nat) : Int) := (i64_w _).trans hw
          have hs := low_snoc b F i hlt
          have hs2 := high_snoc fl b F i hlt
          have hwf : wrap64 (F[i] - 1) = F[i] - 1 := by have h1 := HF.out F[i] (List.getElem_mem hlt); have h2 := HFL.out; unfold wrap64; omega
          have hwf1 : IntKind.i64.wrap (F[i] - 1) = F[i] - 1 := (i64_w _).trans hwf
          by_cases hc : F[i] > b
          · rw [if_pos hc] at hs hs2
            go_wp2
            all_goals (
              go_roundg (F.length - (i + 1))
              case measure => omega
              case rel => exact ⟨i + 1, _, by omega, by omega, by first | (rw [hs]; done) | (rw [hs]; congr 1; omega), by first | (rw [hs2]; done) | (rw [hs2]; congr 1; omega), by go_num, rfl⟩)
          · rw [if_neg hc] at hs hs2
            go_wp2
            all_goals (
              go_roundg (F.length - (i + 1))
              case measure => omega
              case rel => exact ⟨i + 1, _, by omega, by omega, by first | (rw [hs]; done) | (rw [hs]; congr 1; omega), by first | (rw [hs2]; done) | (rw [hs2]; congr 1; omega), by go_num, rfl⟩)
        · have hkn : i = F.length := by omega
          subst hkn
          have hltz : ¬ (F.length : Int) < (F.length : Int) := by omega
          have hall : F.take F.length = F := List.take_length
          rw [hall]
          go_wp2
          go_ret3
          exact ⟨by first | rfl | (simp; done), pw_below_drewN HB2.out _⟩

def hasR (f : Int) (l : List Int) : Bool := l.any fun x => decide (f = x)
set_option maxHeartbeats 1000000 in
theorem index_calls (A : Option Addr) (c : Nat) (l : List Int) (f : Int) (w : World) (hC : Kd.C (Kd.int .i64) w A l.length l) :
    Calls Try.prog 76 #[.slice A l.length c, .int .i64 f] w fun e w' => ∃ z : Int, e = .returned (.int .i64 z) ∧ decide (0 ≤ z) = hasR f l ∧ ∃ q, w' = w.drewN q := by
  have HC := Lib.hid hC
  have hmax := Lib.hid hC.2.1
  clear hC
  go_enter Try.func76, Try.ntmps76
  go_wp2
  go_loopg [5, 8] l.length (fun gg _ s8 wr => ∃ kk q : Nat, kk ≤ l.length ∧ l.length - kk ≤ gg ∧ s8 = .int .i64 kk ∧ wr = w.drewN q ∧ Aside (∀ j (hj : j < l.length), j < kk → ¬ f = l[j]))
  case atStart => exact ⟨0, 0, Nat.zero_le _, by omega, rfl, rfl, fun j hj h2 => absurd h2 (Nat.not_lt_zero _)⟩
  case round =>
    obtain ⟨kk, q, hkk, hg, rfl, rfl, HA⟩ := hrel
    by_cases hlt : kk < l.length
    · obtain ⟨ad, rfl, hcell⟩ := int_cell HC.out kk hlt
      have hltz : (kk : Int) < (l.length : Int) := by omega
      have hw : wrap64 ((kk : Int) + 1) = ((kk + 1 : Nat) : Int) := by have := hmax.out; unfold wrap64; omega
      have hw1 : IntKind.i64.wrap ((kk : Int) + 1) = ((kk + 1 : Nat) : Int) := (i64_w _).trans hw
      obtain ⟨x, hx⟩ : ∃ x, l[kk] = x := ⟨_, rfl⟩
      rw [hx] at hcell
      by_cases hq : f = x
      · have hyes : hasR f l = true := List.any_eq_true.2 ⟨l[kk], List.getElem_mem hlt, decide_eq_true (hq.trans hx.symm)⟩
        subst hq
        have hbe : (f == f) = true := beq_self_eq_true f
        go_wp2
        go_ret
        exact ⟨kk, by first | rfl | (simp; done), by first | (rw [hyes, decide_eq_true (by omega)]) | (rw [hyes]; simp; done) | (simp [hyes]; done) | omega, _, rfl⟩
      · have hbe : (f == x) = false := beq_eq_false_iff_ne.mpr hq
        go_wp2
        go_roundg (l.length - (kk + 1))
        case measure => omega
        case rel =>
          refine ⟨kk + 1, _, by omega, by omega, by go_num, rfl, (show Aside _ from fun j hj h2 => ?_)⟩
          by_cases e : j = kk
          · subst e
            rw [hx]; exact hq
          · exact HA.out j hj (by omega)
    · have hltz : ¬ (kk : Int) < (l.length : Int) := by omega
      have hno : hasR f l = false := by
        unfold hasR
        rw [List.any_eq_false]
        intro x hx
        obtain ⟨j, hj, rfl⟩ := List.getElem_of_mem hx
        rw [decide_eq_false (HA.out j hj (by omega))]
        decide
      go_wp2
      go_ret
      exact ⟨-1, by first | rfl | (simp; done), by first | decide | (rw [hno]; rfl) | (simp [hno]; done), q, rfl⟩
theorem contains_calls (A : Option Addr) (c : Nat) (l : List Int) (f : Int) (w : World) (hC : Kd.C (Kd.int .i64) w A l.length l) :
    Calls Try.prog 66 #[.slice A l.length c, .int .i64 f] w fun e w' => e = .returned (.bool (hasR f l)) ∧ ∃ q, w' = w.drewN q := by
  have hcon := index_calls A c l f w hC
  clear hC
  generalize hasR f l = r at hcon ⊢
  go_enter Try.func66, Try.ntmps66
  go_wp2_with (go_at_call 76; refine hcon.mono ?_; rintro e w' ⟨z, rfl, hz, q, rfl⟩)
  go_ret
  exact ⟨by rw [← hz]; first | rfl | (simp; done), q, rfl⟩

/-- Each floor is in the list. -/
def settled (fl : Int) (l : List Int) : Bool := (List.range' 1 fl.toNat).all fun f => hasR (f : Int) l
def settleRes (h fl : Int) (ls : List (List Int)) : Bool × Bool := if told h fl ls then (settled fl (flatR ls), true) else (false, false)
set_option maxHeartbeats 2000000 in
theorem settle_calls (A : Option Addr) (c : Nat) (ls : List (List Int)) (h fl : Int) (w : World) (hC : Kd.C (Kd.slice 3 (Kd.int .i64)) w A ls.length ls) :
    Calls Try.prog 35 #[.int .i64 h, .int .i64 fl, .slice A ls.length c] w fun e w' => e = .returned (.tuple #[.bool (settleRes h fl ls).1, .bool (settleRes h fl ls).2]) ∧ Below w.heap.size w w' := by
  have hare := areRounds_calls A c ls h fl w hC
  have HC := Lib.hid hC
  clear hC
  unfold settleRes
  cases ht : told h fl ls with
  | false =>
    rw [ht] at hare
    go_enter Try.func35, Try.ntmps35
    go_wp2_with (go_at_call 28; refine hare.mono ?_; rintro e w1 ⟨rfl, hb⟩; have HB := Lib.hid hb; clear hb)
    go_ret2
    exact ⟨by first | rfl | (simp; done), HB.out⟩
  | true =>
    rw [ht] at hare
    have hlen := told_len ht
    have hfl := (told_parts ht).2.1
    rw [if_pos (by rfl)]
    have hcat := fun w1 (hb : Below w.heap.size w w1) => concat_calls A c ls w1 (Kd.C_below HC.out hb) (by omega)
    clear hlen
    generalize flatR ls = F at hcat ⊢
    obtain ⟨n, rfl⟩ : ∃ n : Nat, fl = n := ⟨fl.toNat, by omega⟩
    have hn : n ≤ 1000 := by omega
    clear hfl
    go_enter Try.func35, Try.ntmps35
    go_wp2_with (first | (go_at_call 28; refine hare.mono ?_; rintro e w1 ⟨rfl, hb⟩; have HB := Lib.hid hb; clear hb) | (go_at_call 62; refine (hcat _ (by first | exact HB.out | exact pw_below_drewN HB.out _)).mono ?_; rintro e w2 ⟨v, rfl, ho, hb⟩; have HB2 := Lib.hid (below_step (by first | exact HB.out | exact pw_below_drewN HB.out _) hb); clear hb; obtain ⟨A2, c2, rfl, _, hC2⟩ := own_C ho; have HC2 := Lib.hid hC2; clear ho hC2))
    go_loopg [9] (n + 1) (fun gg s9 wr => ∃ f q : Nat, 1 ≤ f ∧ f ≤ n + 1 ∧ n + 1 - f ≤ gg ∧ s9 = .int .i64 f ∧ wr = w2.drewN q ∧ Aside (∀ g : Nat, 1 ≤ g → g < f → hasR (g : Int) F = true))
    case atStart => exact ⟨1, 0, Nat.le_refl _, by omega, by omega, rfl, rfl, fun g h1 h2 => by omega⟩
    case round =>
      obtain ⟨f, q, hf1, hf2, hg, rfl, rfl, HA⟩ := hrel
      by_cases hlt : f ≤ n
      · have hltz : (f : Int) ≤ (n : Int) := by omega
        have hw : wrap64 ((f : Int) + 1) = ((f + 1 : Nat) : Int) := by unfold wrap64; omega
        have hw1 : IntKind.i64.wrap ((f : Int) + 1) = ((f + 1 : Nat) : Int) := (i64_w _).trans hw
        have hcon := fun q2 => contains_calls A2 c2 F (f : Int) (w2.drewN q2) (Kd.C_drewN HC2.out q2)
        cases hq : hasR (f : Int) F with
        | false =>
          rw [hq] at hcon
          have hno : settled (n : Int) F = false := by
            unfold settled
            rw [List.all_eq_false]
            exact ⟨f, by rw [List.mem_range'_1]; omega, by rw [hq]; decide⟩
          go_wp2_with (go_at_call 66; refine (hcon _).mono ?_; rintro e w' ⟨rfl, q', rfl⟩)
          go_ret2
          exact ⟨by first | rfl | (simp; done) | (rw [hno]; first | rfl | (simp; done)) | (simp [hno]; done), by first | exact pw_below_drewN HB2.out _ | exact pw_below_drewN (pw_below_drewN HB2.out _) _⟩
        | true =>
          rw [hq] at hcon
          go_wp2_with (go_at_call 66; refine (hcon _).mono ?_; rintro e w' ⟨rfl, q', rfl⟩)
          go_roundg (n + 1 - (f + 1))
          case measure => omega
          case rel =>
            refine ⟨f + 1, _, by omega, by omega, by omega, by go_num, rfl, (show Aside _ from fun g h1 h2 => ?_)⟩
            by_cases e : g = f
            · subst e; exact hq
            · exact HA.out g h1 (by omega)
      · have hltz : ¬ (f : Int) ≤ (n : Int) := by omega
        have hyes : settled (n : Int) F = true := by
          unfold settled
          rw [List.all_eq_true]
          intro g hg2
          rw [List.mem_range'_1] at hg2
          exact HA.out g (by omega) (by omega)
        go_wp2
        go_ret2
        exact ⟨by first | rfl | (simp; done) | (rw [hyes]; first | rfl | (simp; done)) | (simp [hyes]; done), pw_below_drewN HB2.out _⟩
end Go.Proofs.Ytnolocmcjcjjcaa.Rd
