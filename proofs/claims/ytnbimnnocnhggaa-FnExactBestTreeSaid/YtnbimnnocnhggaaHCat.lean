/- slices.Concat over rows of whole numbers gives a row of its own, the rows one behind the other; no conditions beyond those stated. -/
import Derived.Test.YtnbimnnocnhggaaHGrow
import Derived.Lib.SliceRun
import Derived.WalkKit
import Derived.KernelRfl
import Derived.Deep.LoopGhost
import Derived.Lib.Hide
import Derived.Deep.Draws
import Derived.Laws.AppendOwn
import Derived.Test.YtnbimnnocnhggaaWWords
import Derived.Test.YtnbimnnocnhggaaWMore
namespace Go.Proofs.Ytnbimnnocnhggaa.Hand
open Go Go.Proofs Go.RowKit Go.Shelf Go.Lib Go.Proofs.YtnbimnnocnhggaaW.PrintWords Go.Proofs.YtnbimnnocnhggaaW.PrintMore
set_option maxRecDepth 100000

theorem infoI : (Try.prog.info? 3).map (fun i => (i.zero, i.size, i.bytes)) = some (some (.int .i64 0), 1, 8) := by kernel_rfl
theorem addq (b o n : Nat) : (⟨b, o, none⟩ : Addr).add n = ⟨b, o + n, none⟩ := by unfold Addr.add; split <;> simp_all

/-- A row that is asked for room comes out empty and of the call's own. -/
theorem grow_calls (n : Nat) (w : World) (hn : 0 < n) (hbig : n * 8 ≤ 140737488355328) :
    Calls Try.prog 96 #[.slice none 0 0, .int .i64 n] w fun e w' => ∃ v, e = .returned v ∧ w'.ownsRow w.heap.size 3 1 v 0 [] ∧ Below w.heap.size w w' := by
  obtain ⟨i0, hi, hzz⟩ := Option.map_eq_some_iff.1 infoI
  simp only [Prod.mk.injEq] at hzz
  obtain ⟨hz, hs, hb⟩ := hzz
  have h := Any8.slices_Grow_grow Try.laysGrow i0 (.int .i64 0) hi hz (by omega) none 0 0 n [] w (Nat.le_refl _) (by omega) (by rw [hb]; omega) (by omega) (by simp) (fun _ => rfl) (fun a ha => by cases ha)
  rw [show Try.laysGrow_ren.t 25 = 3 from rfl, show Try.laysGrow_ren.f 4 = 96 from rfl] at h
  refine h.mono ?_
  rintro e w' ⟨rfl, rfl⟩
  have hheap : ∀ o : Obj, (w.drew.alloc o).heap[w.heap.size]? = some o := fun o => Array.getElem?_push_size (xs := w.heap) (x := o)
  refine ⟨.slice (some ⟨w.heap.size, 0, none⟩) 0 (grownCap w (0 + n) 0 3), rfl, ⟨rfl, .inr ⟨w.heap.size, grownCap w (0 + n) 0 3, ([] : List Value).toArray ++ Builtin.zeroCells (Value.int .i64 0).cells (0 + n - 0) ++ Builtin.zeroCells (Value.int .i64 0).cells (grownCap w (0 + n) 0 3 - (0 + n)), rfl, Nat.le_refl _, hheap _, Nat.zero_le _, ?_, ?_, rfl⟩⟩, ?_⟩
  · exact grownCap_le_maxLen _ _ _ _ (by unfold maxLen; omega)
  · have hge := grownCap_ge w (0 + n) 0 3
    have ez : ∀ m, (Builtin.zeroCells (Value.int .i64 0).cells m).size = m := fun m => by simp [Builtin.zeroCells, Value.cells]
    rw [Array.size_append, Array.size_append, ez, ez]
    simp at hge ⊢
    omega
  · exact below_alloc (below_drew1 (Below.refl _ _)) _

/-- A row's value and what it holds. -/
abbrev Part := Option Addr × Nat × List Int
def flat (L : List Part) : List Int := L.flatMap fun p => p.2.2
def sizes (L : List Part) : Nat := (flat L).length
theorem flat_snoc (L : List Part) (kk : Nat) (h : kk < L.length) : flat (L.take (kk + 1)) = flat (L.take kk) ++ L[kk].2.2 := by
  unfold flat; rw [List.take_succ_eq_append_getElem h, List.flatMap_append]; simp
theorem sizes_snoc (L : List Part) (kk : Nat) (h : kk < L.length) : sizes (L.take (kk + 1)) = sizes (L.take kk) + L[kk].2.2.length := by
  unfold sizes; rw [flat_snoc L kk h, List.length_append]
theorem sizes_le (L : List Part) (kk : Nat) : sizes (L.take kk) ≤ sizes L := by
  have h : flat L = flat (L.take kk) ++ flat (L.drop kk) := by unfold flat; rw [← List.flatMap_append, List.take_append_drop]
  unfold sizes; rw [h, List.length_append]; omega
/-- The rows that are joined: each one's value in its cell, each readable. -/
structure Parts (w : World) (b off : Nat) (L : List Part) : Prop where
  cell : ∀ (j : Nat) (h : j < L.length), w.cell? ⟨b, off + j, none⟩ = some (.slice L[j].1 L[j].2.2.length L[j].2.1)
  row : ∀ (j : Nat) (h : j < L.length), ReadsInt w .i64 L[j].1 L[j].2.2.length L[j].2.2
theorem ReadsInt.stays {w w1 : World} {k : IntKind} {A : Option Addr} {n : Nat} {xs : List Int} (h : ReadsInt w k A n xs) (hb : Below w.heap.size w w1) : ReadsInt w1 k A n xs := ⟨h.1, h.2.1, fun h0 => by
  obtain ⟨ad, e, hc⟩ := h.2.2 h0
  exact ⟨ad, e, fun j hj => (hb.cell (World.block_lt_of_cell? w _ (hc j hj))).trans (hc j hj)⟩⟩
theorem Parts.below {w w1 : World} {b off : Nat} {L : List Part} (h : Parts w b off L) (hb : Below w.heap.size w w1) : Parts w1 b off L :=
  ⟨fun j hj => (hb.cell (World.block_lt_of_cell? w _ (h.cell j hj))).trans (h.cell j hj), fun j hj => ReadsInt.stays (h.row j hj) hb⟩
set_option maxHeartbeats 4000000 in
theorem concat_calls (b off c : Nat) (L : List Part) (w : World) (hP : Parts w b off L) (hn : L.length ≤ 1000000) (h0 : 0 < sizes L) (hbig : sizes L ≤ 1000000000000) :
    Calls Try.prog 90 #[.slice (some ⟨b, off, none⟩) L.length c] w fun e w' => ∃ v, e = .returned v ∧ w'.ownsRow w.heap.size 3 1 v (flat L).length (nums .i64 (flat L)) ∧ Below w.heap.size w w' := by
  have HP := Lib.hid hP
  have HS := Lib.hid h0
  have HBIG := Lib.hid hbig
  clear hP h0 hbig
  go_enter Try.func90, Try.ntmps90
  go_wp2
  go_loopg [3, 5, 11] L.length (fun gg s3 _ s11 wr => ∃ kk q : Nat, kk ≤ L.length ∧ L.length - kk ≤ gg ∧ s3 = .int .i64 (sizes (L.take kk)) ∧ s11 = .int .i64 kk ∧ wr = w.drewN q)
  case atStart => exact ⟨0, 0, Nat.zero_le _, by omega, rfl, rfl, rfl⟩
  case round =>
    obtain ⟨kk, q, hkk, hg, rfl, rfl, rfl⟩ := hrel
    by_cases hlt : kk < L.length
    · have hcell : w.cell? ⟨b, off + kk, none⟩ = some (.slice L[kk].1 L[kk].2.2.length L[kk].2.1) := HP.out.cell kk hlt
      have hsum : wrap64 ((sizes (L.take kk) : Int) + (L[kk].2.2.length : Int)) = (sizes (L.take (kk + 1)) : Int) := by
        rw [sizes_snoc L kk hlt]; have := sizes_le L (kk + 1); rw [sizes_snoc L kk hlt] at this; have := HBIG.out; unfold wrap64; omega
      have hpos : ¬ ((sizes (L.take (kk + 1)) : Int) < 0) := by omega
      go_wp2
      go_roundg (L.length - (kk + 1))
      case measure => omega
      case rel => exact ⟨kk + 1, _, by omega, by omega, by go_num, by go_num, rfl⟩
    · have hkn : kk = L.length := by omega
      subst hkn
      have hall : L.take L.length = L := List.take_length
      rw [hall] at *
      clear hlt hkk hg
      go_wp2_with (go_at_call 96; refine (grow_calls (sizes L) _ HS.out (by have := HBIG.out; omega)).mono ?_; rintro e w1 ⟨v, rfl, ho, hb⟩)
      have HO := Lib.hid (show w1.ownsRow w.heap.size 3 1 v (flat (L.take 0)).length (nums .i64 (flat (L.take 0))) from ho)
      have HB1 := Lib.hid (below_step (pw_below_drewN (Below.refl w.heap.size w) q) hb)
      clear ho hb
      go_loopg [6, 8, 27] L.length (fun gg s6 _ s27 wr => ∃ kk : Nat, kk ≤ L.length ∧ L.length - kk ≤ gg ∧ s27 = .int .i64 kk ∧ Hid (wr.ownsRow w.heap.size 3 1 s6 (flat (L.take kk)).length (nums .i64 (flat (L.take kk)))) ∧ Hid (Below w.heap.size w wr))
      case atStart => exact ⟨0, Nat.zero_le _, by omega, rfl, HO, HB1⟩
      case round =>
        clear HO HB1
        obtain ⟨kk, hkk, hg, rfl, HO, HB1⟩ := hrel
        by_cases hlt : kk < L.length
        · have hcell : wr.cell? ⟨b, off + kk, none⟩ = some (.slice L[kk].1 L[kk].2.2.length L[kk].2.1) := (HP.out.below HB1.out).cell kk hlt
          have HROW := Lib.hid ((HP.out.below HB1.out).row kk hlt)
          have HLEN := Lib.hid (show ((flat (L.take kk)).length + L[kk].2.2.length) * 8 ≤ 140737488355328 by
            have h1 := sizes_le L (kk + 1); rw [sizes_snoc L kk hlt] at h1; have h2 := HBIG.out; unfold sizes at h1 h2; omega)
          go_wp2_with ((with_reducible refine gate_builtin (b := .append) (xs := #[.tmp 31, .tmp 32]) rfl ?_); at_builtin; refine print_append_row (w0 := w) w.heap.size rfl (.tmp 31) (.tmp 32) 27 3 .i64 8 rfl Try.underlying27 infoI (by decide) u6 (flat (L.take kk)) L[kk].2.2 L[kk].1 L[kk].2.2.length L[kk].2.1 rfl rfl HO.out HROW.out HB1.out HB1.out.size HLEN.out ?_; intro v5 w5 ho hb hg2 hat; rw [← flat_snoc L kk hlt] at ho; have n0_ := Lib.hid hb; have n1_ := Lib.hid ho; clear HB1; clear HO; have HB1 := n0_; have HO := n1_; clear n0_ n1_; clear ho hb hg2 hat)
          go_roundg (L.length - (kk + 1))
          case measure => omega
          case rel => exact ⟨kk + 1, by omega, by omega, by go_num, HO, HB1⟩
        · have hkn : kk = L.length := by omega
          subst hkn
          clear hlt hkk hg
          go_wp2
          go_ret
          refine ⟨_, rfl, ?_, HB1.out⟩
          have h := HO.out
          rw [List.take_length] at h
          exact h

theorem own_empty (w : World) : (w.alloc (.cells #[] 3)).ownsRow w.heap.size 3 1 (.slice (some ⟨w.heap.size, 0, none⟩) 0 0) 0 [] :=
  ⟨rfl, .inr ⟨w.heap.size, 0, #[], rfl, Nat.le_refl _, Array.getElem?_push_size (xs := w.heap) (x := Obj.cells #[] 3), Nat.le_refl _, Nat.zero_le _, rfl, rfl⟩⟩
def moved (l : List Int) (m : Int) : List Int := l.map fun n => wrap64 (n + m)
theorem moved_snoc (l : List Int) (m : Int) (kk : Nat) (h : kk < l.length) : moved (l.take (kk + 1)) m = moved (l.take kk) m ++ [wrap64 (l[kk] + m)] := by
  unfold moved; rw [List.take_succ_eq_append_getElem h, List.map_append]; rfl
set_option maxHeartbeats 4000000 in
theorem shifted_calls (A : Option Addr) (c : Nat) (l : List Int) (m : Int) (w : World) (h : ReadsInt w .i64 A l.length l) (hl : l.length ≤ 1000000000000) :
    Calls Try.prog 91 #[.slice A l.length c, .int .i64 m] w fun e w' => ∃ v, e = .returned v ∧ w'.ownsRow w.heap.size 3 1 v (moved l m).length (nums .i64 (moved l m)) ∧ Below w.heap.size w w' := by
  have HR := Lib.hid h
  have HL := Lib.hid hl
  clear h hl
  go_enter Try.func91, Try.ntmps91
  go_wp2
  go_loopg [5, 7, 11] l.length (fun gg s5 _ s11 wr => ∃ kk : Nat, kk ≤ l.length ∧ l.length - kk ≤ gg ∧ s11 = .int .i64 kk ∧ Hid (wr.ownsRow w.heap.size 3 1 s5 (moved (l.take kk) m).length (nums .i64 (moved (l.take kk) m))) ∧ Hid (Below w.heap.size w wr))
  case atStart => exact ⟨0, Nat.zero_le _, by omega, rfl, Lib.hid (own_empty w), Lib.hid (below_alloc (Below.refl _ _) _)⟩
  case round =>
    obtain ⟨kk, hkk, hg, rfl, HO, HB1⟩ := hrel
    by_cases hlt : kk < l.length
    · obtain ⟨ad, rfl, hcell⟩ := (HR.out.below HB1.out).at_ (kk : Int) (by omega) (by omega)
      have hrd : rd l (kk : Int) = l[kk] := by unfold rd; simp [hlt]
      rw [hrd] at hcell
      rw [show ((kk : Int)).toNat = kk from rfl] at hcell
      have HLEN := Lib.hid (show ((moved (l.take kk) m).length + 1) * 8 ≤ 140737488355328 by unfold moved; rw [List.length_map, List.length_take]; have := HL.out; omega)
      go_wp2_with ((with_reducible refine gate_builtin (b := .append) (xs := #[.tmp 15, .tmp 19]) rfl ?_); at_builtin; refine print_append_num (w0 := w) w.heap.size rfl (.tmp 15) (.tmp 19) 27 3 .i64 8 rfl Try.underlying27 infoI (by decide) u5 (moved (l.take kk) m) (wrap64 (l[kk] + m)) rfl rfl HO.out HB1.out HB1.out.size HLEN.out ?_; intro v5 w5 ho hb hg2 hat; rw [← moved_snoc l m kk hlt] at ho; have n0_ := Lib.hid hb; have n1_ := Lib.hid ho; clear HB1; clear HO; have HB1 := n0_; have HO := n1_; clear n0_ n1_; clear ho hb hg2 hat)
      have hwk : wrap64 ((kk : Int) + 1) = ((kk + 1 : Nat) : Int) := by have := HL.out; unfold wrap64; omega
      go_roundg (l.length - (kk + 1))
      case measure => omega
      case rel => exact ⟨kk + 1, by omega, by omega, by first | rw [hwk] | (simp only [hwk]; done) | go_num, HO, HB1⟩
    · have hkn : kk = l.length := by omega
      subst hkn
      clear hlt hkk hg
      go_wp2
      go_ret
      refine ⟨_, rfl, ?_, HB1.out⟩
      have h := HO.out
      rw [List.take_length] at h
      exact h
theorem own_lower {w : World} {b b' : Nat} {e : TypeId} {size n : Nat} {v : Value} {xs : List Value} (h : w.ownsRow b e size v n xs) (hb : b' ≤ b) : w.ownsRow b' e size v n xs := by
  obtain ⟨h1, h2⟩ := h
  refine ⟨h1, ?_⟩
  rcases h2 with h2 | ⟨g, cap, cur, h3, h4, h5⟩
  · exact .inl h2
  · exact .inr ⟨g, cap, cur, h3, Nat.le_trans hb h4, h5⟩
theorem one_reads (w : World) (x : Int) : ReadsInt (w.alloc (.cells #[.int .i64 x] 3)) .i64 (some ⟨w.heap.size, 0, none⟩) [x].length [x] := by
  refine ⟨rfl, by simp, fun _ => ⟨_, rfl, fun j hj => ?_⟩⟩
  obtain rfl : j = 0 := by simpa using hj
  rw [addq]
  simp
set_option maxHeartbeats 4000000 in
/-- The tree whose parts two rows are. -/
theorem joined_calls (A0 : Option Addr) (c0 : Nat) (l0 : List Int) (A1 : Option Addr) (c1 : Nat) (l1 : List Int) (w : World) (h0 : ReadsInt w .i64 A0 l0.length l0) (h1 : ReadsInt w .i64 A1 l1.length l1) (hl : l0.length + l1.length ≤ 1000000) :
    Calls Try.prog 82 #[.slice A0 l0.length c0, .slice A1 l1.length c1] w fun e w' => ∃ v, e = .returned v ∧ w'.ownsRow w.heap.size 3 1 v (((l0.length : Int) + 1) :: (l0 ++ moved l1 ((l0.length : Int) + 1))).length (nums .i64 (((l0.length : Int) + 1) :: (l0 ++ moved l1 ((l0.length : Int) + 1)))) ∧ Below w.heap.size w w' := by
  have H0 := Lib.hid h0
  have H1 := Lib.hid h1
  have HL := Lib.hid hl
  have hroot : wrap64 ((l0.length : Int) + 1) = (l0.length : Int) + 1 := by unfold wrap64; omega
  clear h0 h1 hl
  go_enter Try.func82, Try.ntmps82
  go_wp2_with (first | (go_at_call 91; refine (shifted_calls A1 c1 l1 ((l0.length : Int) + 1) _ (H1.out.below (by repeat (first | exact Below.refl _ _ | apply below_alloc | apply pw_below_drewN | apply below_drew1))) (by have := HL.out; omega)).mono ?_; rintro e w1 ⟨v, rfl, ho, hb⟩; obtain ⟨Av, cv, rfl, hrv⟩ := own_reads ho; have HV := Lib.hid hrv; have HB := Lib.hid hb; clear ho hb hrv) | (go_at_call 90; refine (concat_calls w1.heap.size 0 3 [(some ⟨w.heap.size, 0, none⟩, 1, [(l0.length : Int) + 1]), (A0, c0, l0), (Av, cv, moved l1 ((l0.length : Int) + 1))] _ ?p1 (by simp) (by simp [sizes, flat]) (by have := HL.out; simp [sizes, flat, moved]; omega)).mono ?_; rotate_left; (rintro e w2 ⟨v2, rfl, ho, hb⟩; have HO := Lib.hid ho; have HB2 := Lib.hid hb; clear ho hb); rotate_left))
  · refine ⟨fun j hj => ?_, fun j hj => ?_⟩
    · match j, hj with
      | 0, _ => simp
      | 1, _ => simp
      | 2, _ => simp
      | j + 3, h => exact absurd (show j + 3 < 3 from h) (by omega)
    · match j, hj with
      | 0, _ => exact ((one_reads w _).below HB.out).allocS _
      | 1, _ => exact ((H0.out.allocS _).below HB.out).allocS _
      | 2, _ => exact HV.out.allocS _
      | j + 3, h => exact absurd (show j + 3 < 3 from h) (by omega)
  · go_ret
    refine ⟨v2, rfl, ?_, below_step (below_alloc (below_step (below_alloc (Below.refl _ w) _) HB.out) _) HB2.out⟩
    have h := own_lower HO.out (b' := w.heap.size) (by have hs := HB.out.size; simp at hs ⊢; omega)
    have ef : flat [(some (⟨w.heap.size, 0, none⟩ : Addr), 1, [(l0.length : Int) + 1]), (A0, c0, l0), (Av, cv, moved l1 ((l0.length : Int) + 1))] = ((l0.length : Int) + 1) :: (l0 ++ moved l1 ((l0.length : Int) + 1)) := by simp [flat]
    rw [ef] at h
    exact h
end Go.Proofs.Ytnbimnnocnhggaa.Hand
