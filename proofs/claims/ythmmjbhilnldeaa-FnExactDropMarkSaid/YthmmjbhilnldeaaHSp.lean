/- Words for a row together with the room behind it, used by the laws that look into that room; no conditions. -/
import Derived.Test.YthmmjbhilnldeaaWWords
import Derived.Test.YthmmjbhilnldeaaWLast
import Derived.Test.YthmmjbhilnldeaaWMore
import Derived.WalkKit
import Derived.Below
namespace Go.Proofs.Ythmmjbhilnldeaa
open Go Go.RowKit Go.Proofs.YthmmjbhilnldeaaW.PrintWords Go.Proofs.YthmmjbhilnldeaaW.PrintLast Go.Proofs.YthmmjbhilnldeaaW.PrintMore
/-- A row's value, and all that lies in it and behind it. -/
def Sp {α : Type} (d : Kd α) (w : World) (v : Value) (F : List α) : Prop := ∃ A n c, v = .slice A n c ∧ F.length ≤ c ∧ Kd.C d w A F.length F
theorem Sp.below {α : Type} {d : Kd α} {w w1 : World} {v : Value} {F : List α} (h : Sp d w v F) (hb : Below w.heap.size w w1) : Sp d w1 v F := by
  obtain ⟨A, n, c, e, h1, h2⟩ := h
  exact ⟨A, n, c, e, h1, Kd.C_below h2 hb⟩
theorem Sp.drewN {α : Type} {d : Kd α} {w : World} {v : Value} {F : List α} {n : Nat} (h : Sp d w v F) : Sp d (w.drewN n) v F := by
  obtain ⟨A, n, c, e, h1, h2⟩ := h
  exact ⟨A, n, c, e, h1, Kd.C_drewN h2 _⟩
theorem Sp.drew {α : Type} {d : Kd α} {w : World} {v : Value} {F : List α} (h : Sp d w v F) : Sp d w.drew v F := by
  obtain ⟨A, n, c, e, h1, h2⟩ := h
  exact ⟨A, n, c, e, h1, Kd.C_drew h2⟩
theorem Sp.alloc {α : Type} {d : Kd α} {w : World} {v : Value} {F : List α} {o : Obj} (h : Sp d w v F) : Sp d (w.alloc o) v F := by
  obtain ⟨A, n, c, e, h1, h2⟩ := h
  exact ⟨A, n, c, e, h1, Kd.C_alloc h2 _⟩
theorem cut_cap {P : Program} (t e : TypeId) (kh : IntKind) {i : TypeInfo} (ht : P.underlying t = some (.slice e)) (hi : P.info? e = some i) (A : Option Addr) (n c : Nat) (j : Int) (h0 : 0 ≤ j) (hm : j ≤ c) :
    ∀ W : World, (Instr.slice t (.slice A n c) none (some (.int kh j)) none).run P W = .ok (.slice A j.toNat c) W := by
  intro W
  have hel : P.elem t = e := by simp [Program.elem, ht]
  have hu : P.underlying t = some (.slice (P.elem t)) := by rw [hel]; exact ht
  have ha : (A.map fun x => x.add 0) = A := by cases A <;> simp [Addr.add]
  rw [run_slice_h W t A n c hu kh j h0 hm, hel]
  simp [sizeOf, typeInfo, hi, sliced, Result.andThen, ha]
theorem ev_unique {α : Type} {g : Nat → Option α} {r q : α} (hg : ∀ k, LeO (g k) (g (k + 1))) (h : Ev g r) {k : Nat} (hq : g k = some q) : q = r := by
  obtain ⟨K, hK⟩ := h
  have h1 := at_rounds hg (Nat.le_max_left k K) hq
  have h2 := hK (max k K) (Nat.le_max_right _ _)
  rw [h1] at h2
  exact Option.some.inj h2
def room (n : Nat) : Nat := if n % 6 = 5 then 0 else if n % 3 = 0 then 1 else n
theorem room_le (n : Nat) : room n ≤ n + 1 := by unfold room; split <;> (try split) <;> omega
theorem set_at {α : Type} (a : List α) (i : Nat) (hi : a.length = i) (z v : α) (rest : List α) : (a ++ z :: rest).set i v = a ++ v :: rest := by
  subst hi; simp
end Go.Proofs.Ythmmjbhilnldeaa
