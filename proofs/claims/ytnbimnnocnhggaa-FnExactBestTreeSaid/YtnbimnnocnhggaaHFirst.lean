/- The program's BestTree answers the first tree with the fewest tests; no conditions. -/
import Derived.Test.YtnbimnnocnhggaaHCat
import Derived.Test.YtnbimnnocnhggaaHCTops
namespace Go.Proofs.Ytnbimnnocnhggaa.Hand
open Go Go.Proofs Go.RowKit Go.Shelf Go.Lib Go.Proofs.YtnbimnnocnhggaaW.PrintWords Go.Proofs.YtnbimnnocnhggaaW.PrintMore
set_option maxRecDepth 100000
set_option linter.unusedVariables false

/-- A tree out of its parts. -/
def joinT (a b : List Int) : List Int := ((a.length : Int) + 1) :: (a ++ moved b ((a.length : Int) + 1))
theorem joinT_len (a b : List Int) : (joinT a b).length = a.length + b.length + 1 := by unfold joinT moved; simp
/-- The first floor, less one, of the first tree of n floors with t + 1 tests and e eggs. -/
def lowF (t e n : Nat) : Nat := (max 0 ((n : Int) - 1 - reach t e)).toNat
def bt : Nat → Nat → Nat → List Int
  | 0, _, _ => []
  | t + 1, e, n => if n = 0 then [] else joinT (bt t (e - 1) (lowF t e n)) (bt t e (n - 1 - lowF t e n))
theorem bt_succ (t e n : Nat) : bt (t + 1) e n = if n = 0 then [] else joinT (bt t (e - 1) (lowF t e n)) (bt t e (n - 1 - lowF t e n)) := rfl
theorem bt_nil (t e : Nat) : bt t e 0 = [] := by cases t <;> rfl
theorem reach_succ (t e : Nat) : reach (t + 1) (e + 1) = min 1000000001 (reach t e + reach t (e + 1) + 1) := rfl
/-- Where n floors are in reach, the two parts are. -/
theorem low_spec (t e n : Nat) (hn : 1 ≤ n) (h : (n : Int) ≤ reach (t + 1) e) : 1 ≤ e ∧ lowF t e n < n ∧ (lowF t e n : Int) ≤ reach t (e - 1) ∧ ((n - 1 - lowF t e n : Nat) : Int) ≤ reach t e ∧ (lowF t e n : Int) = max 0 ((n : Int) - 1 - reach t e) := by
  cases e with
  | zero => rw [reach_none] at h; omega
  | succ e =>
    rw [reach_succ] at h
    have h1 := reach_bd t e
    have h2 := reach_bd t (e + 1)
    have h3 : (lowF t (e + 1) n : Int) = max 0 ((n : Int) - 1 - reach t (e + 1)) := by unfold lowF; omega
    rw [Nat.add_sub_cancel]
    omega
theorem bt_len : ∀ (t e n : Nat), (n : Int) ≤ reach t e → (bt t e n).length = n
  | 0, e, n, h => by rw [reach_zero] at h; obtain rfl : n = 0 := by omega
                     rfl
  | t + 1, e, n, h => by
    rw [bt_succ]
    by_cases h0 : n = 0
    · rw [if_pos h0, h0]; rfl
    · obtain ⟨h1, h2, h3, h4, _⟩ := low_spec t e n (by omega) h
      rw [if_neg h0, joinT_len, bt_len t (e - 1) _ h3, bt_len t e _ h4]
      omega
set_option maxHeartbeats 4000000 in
theorem firstTree_calls (b : Nat) : ∀ (t e n : Nat), t ≤ 1000 → e ≤ 10 → n ≤ 30 → (n : Int) ≤ reach t e → ∀ w : World, Tab w b → b < w.heap.size →
    Calls Try.prog 67 #[.pointer (some ⟨b, 0, none⟩), .int .i64 t, .int .i64 e, .int .i64 n] w fun r w' => ∃ v, r = .returned v ∧ w'.ownsRow w.heap.size 3 1 v (bt t e n).length (nums .i64 (bt t e n)) ∧ Below w.heap.size w w' := by
  intro t
  induction t with
  | zero =>
    intro e n ht he hn h w hT hb
    rw [reach_zero] at h
    obtain rfl : n = 0 := by omega
    clear hT
    go_enter Try.func67, Try.ntmps67
    go_wp2
    go_ret
    exact ⟨_, rfl, own_empty w, below_alloc (Below.refl _ w) _⟩
  | succ t ih =>
    intro e n ht he hn h w hT hbk
    by_cases h0 : n = 0
    · subst h0
      clear hT ih
      rw [bt_nil]
      go_enter Try.func67, Try.ntmps67
      go_wp2
      go_ret
      exact ⟨_, rfl, own_empty w, below_alloc (Below.refl _ w) _⟩
    · obtain ⟨h1, h2, h3, h4, h5⟩ := low_spec t e n (by omega) h
      have hla := bt_len t (e - 1) _ h3
      have hlb := bt_len t e _ h4
      have iha := Lib.hid (fun W H1 H2 => ih (e - 1) (lowF t e n) (by omega) (by omega) (by omega) h3 W H1 H2)
      have ihb := Lib.hid (fun W H1 H2 => ih e (n - 1 - lowF t e n) (by omega) (by omega) (by omega) h4 W H1 H2)
      have hcell := hT.cell t e (by omega) he
      have HT := Lib.hid hT
      have hj : bt (t + 1) e n = joinT (bt t (e - 1) (lowF t e n)) (bt t e (n - 1 - lowF t e n)) := by rw [bt_succ, if_neg h0]
      rw [hj]
      have hR := reach_bd t e
      obtain ⟨a, ha⟩ : ∃ a, a = lowF t e n := ⟨_, rfl⟩
      obtain ⟨c, hc⟩ : ∃ c, c = n - 1 - lowF t e n := ⟨_, rfl⟩
      rw [← hc] at ihb hlb h4 ⊢
      rw [← ha] at iha hla h2 h3 h5 hc ⊢
      obtain ⟨R, hRe⟩ : ∃ R, R = reach t e := ⟨_, rfl⟩
      rw [← hRe] at hcell hR h5
      have hmx : max 1 ((n : Int) - R) = ((a + 1 : Nat) : Int) := by omega
      have HN := Lib.hid (show (bt t (e - 1) a).length + (bt t e c).length ≤ 1000000 by omega)
      have hn0 : ((n : Int) == 0) = false := by simp; omega
      have j1 : (t : Int) < 1001 := by omega
      have j2 : (e : Int) < 11 := by omega
      clear ih hT h h3 h4 hj hla hlb
      have FA := Lib.hid (show ∀ W (x y z : Int), x = (t : Int) → y = ((e - 1 : Nat) : Int) → z = (a : Int) → Tab W b → b < W.heap.size → Calls Try.prog 67 #[.pointer (some ⟨b, 0, none⟩), .int .i64 x, .int .i64 y, .int .i64 z] W fun r w' => ∃ v, r = .returned v ∧ w'.ownsRow W.heap.size 3 1 v (bt t (e - 1) a).length (nums .i64 (bt t (e - 1) a)) ∧ Below W.heap.size W w' from fun W x y z e1 e2 e3 => by rw [e1, e2, e3]; exact iha.out W)
      have FB := Lib.hid (show ∀ W (x y z : Int), x = (t : Int) → y = (e : Int) → z = (c : Int) → Tab W b → b < W.heap.size → Calls Try.prog 67 #[.pointer (some ⟨b, 0, none⟩), .int .i64 x, .int .i64 y, .int .i64 z] W fun r w' => ∃ v, r = .returned v ∧ w'.ownsRow W.heap.size 3 1 v (bt t e c).length (nums .i64 (bt t e c)) ∧ Below W.heap.size W w' from fun W x y z e1 e2 e3 => by rw [e1, e2, e3]; exact ihb.out W)
      have HM := Lib.hid (show max 1 ((n : Int) - R) = ((a + 1 : Nat) : Int) ∧ (c : Int) = n - 1 - a ∧ 1 ≤ e from ⟨hmx, by omega, h1⟩)
      clear h5 hRe ha hc hmx iha ihb
      have tok : True := trivial
      generalize bt t (e - 1) a = la at *
      generalize bt t e c = lb at *
      go_enter Try.func67, Try.ntmps67
      go_wp2_with (first | (go_at_call 67; have _t := tok; refine (FA.out _ _ _ _ (by first | rfl | omega) (by have := HM.out; omega) (by have := HM.out; omega) HT.out hbk).mono ?_; clear tok; rintro e w1 ⟨v, rfl, ho, hb⟩; obtain ⟨A1, c1, rfl, hr⟩ := own_reads ho; have HR1 := Lib.hid hr; have HB1 := Lib.hid hb; have HT1 := Lib.hid (HT.out.below hb hbk); clear ho hr hb) | (go_at_call 67; refine (FB.out _ _ _ _ (by first | rfl | omega) (by first | rfl | omega) (by have := HM.out; omega) HT1.out (Nat.lt_of_lt_of_le hbk HB1.out.size)).mono ?_; rintro e w2 ⟨v, rfl, ho, hb⟩; obtain ⟨A2, c2, rfl, hr⟩ := own_reads ho; have HR2 := Lib.hid hr; have HB2 := Lib.hid hb; clear ho hr hb) | (go_at_call 82; refine (joined_calls A1 c1 la A2 c2 lb _ (HR1.out.below HB2.out) HR2.out HN.out).mono ?_; rintro e w3 ⟨v, rfl, ho, hb⟩; have HO := Lib.hid ho; have HB3 := Lib.hid hb; clear ho hb))
      go_ret
      have h2 := below_step HB1.out HB2.out
      exact ⟨v, rfl, own_lower HO.out h2.size, below_step h2 HB3.out⟩
def bestTreeRes (e f : Int) : List Int × Bool := if inn e 1 10 && inn f 0 30 then (bt (fewT e.toNat f) e.toNat f.toNat, true) else ([], false)
set_option maxHeartbeats 1000000 in
theorem BestTree_calls (e f : Int) (w : World) : Calls Try.prog 35 #[.int .i64 e, .int .i64 f] w fun r w' => ∃ v, r = .returned (.tuple #[v, .bool (bestTreeRes e f).2]) ∧ w'.ownsRow w.heap.size 3 1 v (bestTreeRes e f).1.length (nums .i64 (bestTreeRes e f).1) ∧ Below w.heap.size w w' := by
  unfold bestTreeRes
  cases h1 : inn e 1 10 with
  | false =>
    rw [Bool.false_and, if_neg (by decide)]
    go_enter Try.func35, Try.ntmps35
    go_wp2_with (first | (go_at_call 48; refine (isEggs_all _ _).mono ?_; rw [h1]; rintro e w' ⟨rfl, rfl⟩))
    go_ret2
    exact ⟨_, rfl, ⟨rfl, .inl ⟨rfl, rfl⟩⟩, Below.refl _ _⟩
  | true =>
    cases h2 : inn f 0 30 with
    | false =>
      rw [Bool.and_false, if_neg (by decide)]
      go_enter Try.func35, Try.ntmps35
      go_wp2_with (first | (go_at_call 48; refine (isEggs_all _ _).mono ?_; rw [h1]; rintro e w' ⟨rfl, rfl⟩) | (go_at_call 66; refine (isTreeSize_all _ _).mono ?_; rw [h2]; rintro e w' ⟨rfl, rfl⟩))
      go_ret2
      exact ⟨_, rfl, ⟨rfl, .inl ⟨rfl, rfl⟩⟩, Below.refl _ _⟩
    | true =>
      obtain ⟨e, rfl, he1, he2⟩ := inn_nat h1 (by omega)
      obtain ⟨f, rfl, hf1, hf2⟩ := inn_nat h2 (by omega)
      rw [if_pos (by simp)]
      simp only [Int.toNat_natCast]
      obtain ⟨g1, g2⟩ := fewT_spec e (by omega) (f : Int) (by omega)
      obtain ⟨t, ht⟩ : ∃ t, t = fewT e (f : Int) := ⟨_, rfl⟩
      rw [← ht] at g1 g2 ⊢
      have he10 : e ≤ 10 := by omega
      have HC := Lib.hid (fun b W H1 H2 => firstTree_calls b t e f g1 he10 (by omega) g2.1 W H1 H2)
      have G2 := Lib.hid g2
      clear ht g2
      generalize bt t e f = X at *
      go_enter Try.func35, Try.ntmps35
      go_wp2_with (first | (go_at_call 48; refine (isEggs_all _ _).mono ?_; rw [h1]; rintro e w' ⟨rfl, rfl⟩) | (go_at_call 66; refine (isTreeSize_all _ _).mono ?_; rw [h2]; rintro e w' ⟨rfl, rfl⟩) | (go_at_call 50; refine (newReaches_calls _).mono ?_; rintro r w3 ⟨rfl, hT, hs, hb⟩; have HT := Lib.hid hT; have HS := Lib.hid hs; have HB3 := Lib.hid hb; clear hT hb hs) | (go_at_call 59; refine (fewest_calls w.heap.size e (f : Int) t _ HT.out he10 g1 G2.out).mono ?_; rintro r w4 ⟨rfl, rfl⟩) | (go_at_call 67; refine (HC.out _ _ HT.out HS.out).mono ?_; rintro r w1 ⟨v, rfl, ho, hb⟩; have HO := Lib.hid ho; have HB := Lib.hid hb; clear ho hb))
      go_ret2
      exact ⟨v, rfl, own_lower HO.out HB3.out.size, below_step HB3.out HB.out⟩
end Go.Proofs.Ytnbimnnocnhggaa.Hand
