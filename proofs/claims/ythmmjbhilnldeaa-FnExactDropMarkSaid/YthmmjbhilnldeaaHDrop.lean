/- The program's without gives a row of its own, the marks but one; no conditions beyond those stated. -/
import Derived.Test.YthmmjbhilnldeaaHShelf
import Derived.WalkKit
import Derived.KernelRfl
import Derived.Below
import Derived.Lib.Hide
import Derived.Test.YthmmjbhilnldeaaWWords
import Derived.Test.YthmmjbhilnldeaaWMore
import Derived.Test.YthmmjbhilnldeaaWLast
namespace Go.Proofs.Ythmmjbhilnldeaa.Hand
open Go Go.Proofs Go.RowKit Go.Shelf Go.Lib Go.Proofs.YthmmjbhilnldeaaW.PrintWords Go.Proofs.YthmmjbhilnldeaaW.PrintMore Go.Proofs.YthmmjbhilnldeaaW.PrintLast
set_option maxRecDepth 100000
set_option linter.unusedVariables false
set_option linter.unusedSimpArgs false
theorem cell_spot {w : World} {a : Addr} {v : Value} (h : w.cell? a = some v) : a = ⟨a.block, a.off, none⟩ ∧ a.block < w.heap.size := by
  refine ⟨?_, World.block_lt_of_cell? w _ h⟩
  unfold World.cell? at h
  split at h
  · split at h
    · exact absurd h (by simp)
    · rename_i hs
      cases a with
      | mk b o s => cases s with
        | none => rfl
        | some x => simp at hs
  · exact absurd h (by simp)
theorem addp (b o n : Nat) : (⟨b, o, none⟩ : Addr).add n = ⟨b, o + n, none⟩ := by unfold Addr.add; split <;> simp_all
def less (l : List Int) (k : Nat) : List Int := l.take k ++ l.drop (k + 1)
theorem own_form {w : World} {base : Nat} {e : TypeId} {v : Value} {n : Nat} {xs : List Value} (h : w.ownsRow base e 1 v n xs) (h0 : 0 < n) :
    ∃ g cap cur, v = .slice (some ⟨g, 0, none⟩) n cap ∧ base ≤ g ∧ w.heap[g]? = some (.cells cur e (0, 0)) ∧ n ≤ cap ∧ cap ≤ maxLen ∧ cur.size = cap ∧ cur.toList.take n = xs := by
  obtain ⟨h1, h2⟩ := h
  rcases h2 with ⟨_, h2⟩ | ⟨g, cap, cur, rfl, hb, hh, hn, hm, hs, ht⟩
  · omega
  · exact ⟨g, cap, cur, rfl, hb, hh, hn, hm, by omega, by rw [Nat.mul_one] at ht; exact ht⟩
theorem own_cell {w : World} {g : Nat} {e : TypeId} {cur : Array Value} {n : Nat} {xs : List Value} (hh : w.heap[g]? = some (.cells cur e (0, 0))) (ht : cur.toList.take n = xs) (j : Nat) (x : Value) (hx : xs[j]? = some x) : w.cell? ⟨g, 0 + j, none⟩ = some x ∧ w.frozen? ⟨g, 0 + j, none⟩ = false := by
  have h3 : cur[j]? = some x := by
    rw [← ht, List.getElem?_take] at hx
    split at hx
    · simpa using hx
    · cases hx
  constructor
  · unfold World.cell?
    rw [hh]
    simp [h3]
  · unfold World.frozen?
    rw [hh]
    simp
theorem less_len (l : List Int) (k : Nat) (h : k < l.length) : (less l k).length = l.length - 1 := by
  unfold less; rw [List.length_append, List.length_take, List.length_drop]; omega
theorem clone_calls (A : Option Addr) (c : Nat) (l : List Int) (w : World) (h : ReadsInt w .i64 A l.length l) (hl : l.length ≤ 1000000) (h0 : 0 < l.length) :
    Calls Try.prog 76 #[.slice A l.length c] w fun e w' => ∃ v, e = .returned v ∧ w'.ownsRow w.heap.size 3 1 v l.length (nums .i64 l) ∧ Below w.heap.size w w' := by
  obtain ⟨ad, rfl, hc⟩ := h.2.2 h0
  obtain ⟨e1, _⟩ := cell_spot (hc 0 h0)
  have e2 : ad.add 0 = ad := rfl
  rw [e2] at e1
  rw [e1]
  have hcon := Try.slices_Clone_int ad.block ad.off l.length c l w (Nat.le_refl _) (by omega) (fun j hj => by
    have h2 := hc j hj
    rw [e1, addp] at h2
    exact h2)
  rw [List.take_length] at hcon
  exact hcon.mono fun e w' ⟨v, he, ho, _, hb⟩ => ⟨v, he, ho, hb⟩
theorem delete_calls (v : Value) (l : List Int) (k : Nat) (base : Nat) (w : World) (h : w.ownsRow base 3 1 v l.length (nums .i64 l)) (hk : k < l.length) :
    Calls Try.prog 75 #[v, .int .i64 k, .int .i64 ((k : Int) + 1)] w fun e w' => ∃ v', e = .returned v' ∧ w'.ownsRow base 3 1 v' (less l k).length (nums .i64 (less l k)) ∧ ∀ b0, b0 ≤ base → Below b0 w w' := by
  rw [show (k : Int) + 1 = ((k + 1 : Nat) : Int) by omega]
  obtain ⟨g, cap, cur, rfl, hb, hh, hn, hm, hs, ht⟩ := own_form h (by omega)
  have hcell : ∀ j, j < l.length → w.cell? ⟨g, 0 + j, none⟩ = some (.int .i64 (l.getD j 0)) ∧ w.frozen? ⟨g, 0 + j, none⟩ = false := fun j hj =>
    own_cell hh ht j _ (by
      show (l.map fun x => Value.int .i64 x)[j]? = _
      rw [List.getElem?_map, List.getElem?_eq_getElem hj, List.getD_eq_getElem?_getD, List.getElem?_eq_getElem hj]; rfl)
  have hcon := Try.slices_Delete_int_cells g 0 l.length cap k (k + 1) l w (Nat.le_refl _) hn (by unfold maxLen at hm; omega) (Nat.le_succ k) hk (fun j hj => (hcell j hj).1) (fun j hj => (hcell j hj).2)
  refine hcon.mono ?_
  rintro e w' ⟨rfl, q, rfl⟩
  rw [List.take_length]
  have e1 : l.take k ++ l.drop (k + 1) ++ List.replicate (k + 1 - k) 0 = less l k ++ [0] := by rw [show k + 1 - k = 1 by omega]; rfl
  rw [e1]
  have hll := less_len l k hk
  have hh2 : (w.drewN q).heap[g]? = some (.cells cur 3 (0, 0)) := hh
  obtain ⟨cur', h3, h4, h5⟩ := setCells_row ((less l k ++ [0]).map (Value.int .i64)) 0 (w.drewN q) cur hh2 (by rw [List.length_map, List.length_append, List.length_singleton]; omega)
  obtain ⟨s1, s2, s3, s4⟩ := setCells_same g ((less l k ++ [0]).map (Value.int .i64)) 0 (w.drewN q)
  refine ⟨_, rfl, ⟨?_, .inr ⟨g, cap, cur', ?_, hb, h3, by omega, hm, by omega, ?_⟩⟩, fun b0 hb0 => ?_⟩
  · show (List.map _ _).length = _
    rw [List.length_map, Nat.mul_one]
  · rw [hll, show k + 1 - k = 1 by omega]
  · rw [h5, List.take_zero, List.nil_append, Nat.mul_one, List.map_append, List.append_assoc, List.take_append_of_le_length (by rw [List.length_map]; exact Nat.le_refl _), List.take_of_length_le (by rw [List.length_map]; exact Nat.le_refl _)]
    rfl
  · have hd := pw_below_drewN (Below.refl b0 w) q
    refine ⟨?_, ?_, ?_, ?_, ?_⟩
    · rw [s1]; exact hd.os
    · rw [s2]; exact hd.tape
    · rw [s3]; exact hd.output
    · rw [s4]; exact hd.size
    · intro b hb2
      rw [setCells_far _ _ _ (by omega)]
      exact hd.block b hb2
theorem without_calls (A : Option Addr) (c : Nat) (l : List Int) (k : Nat) (w : World) (h : ReadsInt w .i64 A l.length l) (hl : l.length ≤ 1000000) (hk : k < l.length) :
    Calls Try.prog 68 #[.slice A l.length c, .int .i64 k] w fun e w' => ∃ v, e = .returned v ∧ w'.ownsRow w.heap.size 3 1 v (less l k).length (nums .i64 (less l k)) ∧ Below w.heap.size w w' := by
  have hc := clone_calls A c l w h hl (by omega)
  have hd := fun v W hW => delete_calls v l k w.heap.size W hW hk
  have hw : wrap64 ((k : Int) + 1) = (k : Int) + 1 := by unfold wrap64; omega
  have hw1 : IntKind.i64.wrap ((k : Int) + 1) = (k : Int) + 1 := (i64_w _).trans hw
  clear h
  go_enter Try.func68, Try.ntmps68
  go_wp2_with (first | (go_at_call 76; refine hc.mono ?_; rintro e w1 ⟨v, rfl, ho, hb⟩; have HO := Lib.hid ho; have HB := Lib.hid hb; clear ho hb) | (go_at_call 75; refine (hd v _ HO.out).mono ?_; rintro e w2 ⟨v2, rfl, ho2, hb2⟩; have HO2 := Lib.hid ho2; have HB2 := Lib.hid (hb2 w.heap.size (Nat.le_refl _)); clear ho2 hb2))
  go_ret
  exact ⟨_, rfl, HO2.out, HB.out.trans HB2.out⟩
end Go.Proofs.Ythmmjbhilnldeaa.Hand
