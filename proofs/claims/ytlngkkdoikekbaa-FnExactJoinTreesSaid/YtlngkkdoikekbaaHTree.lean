/- The program's LineTree and HalvesTree: the tree whose first floor is told for each part; no conditions. -/
import Derived.Test.YtlngkkdoikekbaaHCat
import Derived.Test.YtlngkkdoikekbaaHPred
namespace Go.Proofs.Ytlngkkdoikekbaa.Hand
open Go Go.Proofs Go.RowKit Go.Shelf Go.Lib Go.Proofs.YtlngkkdoikekbaaW.PrintWords Go.Proofs.YtlngkkdoikekbaaW.PrintMore
set_option maxRecDepth 100000

/-- A tree out of its parts. -/
def joinT (a b : List Int) : List Int := ((a.length : Int) + 1) :: (a ++ moved b ((a.length : Int) + 1))
theorem joinT_len (a b : List Int) : (joinT a b).length = a.length + b.length + 1 := by unfold joinT moved; simp
def bt (first : Nat → Nat) : Nat → Nat → List Int
  | 0, _ => []
  | k + 1, n => if n = 0 then [] else joinT (bt first k (first n - 1)) (bt first k (n - first n))
theorem bt_succ (first : Nat → Nat) (k n : Nat) : bt first (k + 1) n = if n = 0 then [] else joinT (bt first k (first n - 1)) (bt first k (n - first n)) := rfl
theorem bt_len {first : Nat → Nat} (hf : ∀ n, 1 ≤ n → n ≤ 30 → 1 ≤ first n ∧ first n ≤ n) : ∀ k n, n ≤ k → n ≤ 30 → (bt first k n).length = n
  | 0, n, h, _ => by obtain rfl : n = 0 := by omega
                     rfl
  | k + 1, n, h, h30 => by
    unfold bt
    by_cases h0 : n = 0
    · rw [if_pos h0, h0]; rfl
    · have := hf n (by omega) h30
      rw [if_neg h0, joinT_len, bt_len hf k _ (by omega) (by omega), bt_len hf k _ (by omega) (by omega)]
      omega
set_option maxHeartbeats 4000000 in
theorem built_calls (g : Nat) (first : Nat → Nat) (hf : ∀ n, 1 ≤ n → n ≤ 30 → 1 ≤ first n ∧ first n ≤ n) (eg : ∀ args w, (callFunc g args).run Try.prog w = .ok (.enter g args) w)
    (hg : ∀ (W : World) (n : Nat), 1 ≤ n → n ≤ 30 → Calls Try.prog g #[.int .i64 n] W fun e w' => e = .returned (.int .i64 (first n : Nat)) ∧ ∃ q, w' = W.drewN q) :
    ∀ (k n : Nat), n ≤ k → n ≤ 30 → ∀ w : World, Calls Try.prog 81 #[.int .i64 n, .func (.func g) #[] #[]] w fun e w' => ∃ v, e = .returned v ∧ w'.ownsRow w.heap.size 3 1 v (bt first k n).length (nums .i64 (bt first k n)) ∧ Below w.heap.size w w' := by
  intro k
  induction k with
  | zero =>
    intro n h h30 w
    obtain rfl : n = 0 := by omega
    go_enter Try.func81, Try.ntmps81
    go_wp2
    go_ret
    exact ⟨_, rfl, own_empty w, below_alloc (Below.refl _ w) _⟩
  | succ k ih =>
    intro n h h30 w
    by_cases h0 : n = 0
    · subst h0
      go_enter Try.func81, Try.ntmps81
      go_wp2
      go_ret
      exact ⟨_, rfl, own_empty w, below_alloc (Below.refl _ w) _⟩
    · have hfn := hf n (by omega) h30
      obtain ⟨f, hfe⟩ : ∃ f, f = first n := ⟨_, rfl⟩
      rw [← hfe] at hfn
      obtain ⟨a, ha⟩ : ∃ a, a = f - 1 := ⟨_, rfl⟩
      obtain ⟨b, hb⟩ : ∃ b, b = n - f := ⟨_, rfl⟩
      have hw1 : wrap64 ((f : Int) - 1) = (a : Int) := by unfold wrap64; omega
      have hw2 : wrap64 ((n : Int) - (f : Int)) = (b : Int) := by unfold wrap64; omega
      have hn0 : ((n : Int) == 0) = false := by simp; omega
      have hla := bt_len hf k a (by omega) (by omega)
      have hlb := bt_len hf k b (by omega) (by omega)
      have hcall := hg
      have iha := Lib.hid (ih a (by omega) (by omega))
      have ihb := Lib.hid (ih b (by omega) (by omega))
      have hj : bt first (k + 1) n = joinT (bt first k a) (bt first k b) := by rw [bt_succ, if_neg h0, ← hfe, ← ha, ← hb]
      rw [hj]
      have HC := Lib.hid (fun W => hg W n (by omega) h30)
      rw [← hfe] at HC
      have HN := Lib.hid (show (bt first k a).length + (bt first k b).length ≤ 1000000 by omega)
      clear ih hg hcall hj hf h h30 hfn ha hb hfe hla hlb
      generalize bt first k a = la at *
      generalize bt first k b = lb at *
      go_enter Try.func81, Try.ntmps81
      go_wp2_with (first | (go_at_fn g; refine (HC.out _).mono ?_; rintro e w1 ⟨rfl, q, rfl⟩) | (go_at_call 81; with_reducible refine (iha.out _).mono ?_; rintro e w1 ⟨v, rfl, ho, hb⟩; obtain ⟨A1, c1, rfl, hr⟩ := own_reads ho; have HR1 := Lib.hid hr; have HB1 := Lib.hid hb; clear ho hr hb) | (go_at_call 81; with_reducible refine (ihb.out _).mono ?_; rintro e w2 ⟨v, rfl, ho, hb⟩; obtain ⟨A2, c2, rfl, hr⟩ := own_reads ho; have HR2 := Lib.hid hr; have HB2 := Lib.hid hb; clear ho hr hb) | (go_at_call 96; refine (joined_calls A1 c1 la A2 c2 lb _ (HR1.out.below HB2.out) HR2.out HN.out).mono ?_; rintro e w3 ⟨v, rfl, ho, hb⟩; have HO := Lib.hid ho; have HB3 := Lib.hid hb; clear ho hb))
      go_ret
      have h2 := below_step (below_step (pw_below_drewN (Below.refl w.heap.size w) _) HB1.out) HB2.out
      exact ⟨v, rfl, own_lower HO.out h2.size, below_step h2 HB3.out⟩
theorem isTreeSize_all (a : Int) (w : World) : Calls Try.prog 80 #[.int .i64 a] w fun r w' => r = .returned (.bool (inn a 0 30)) ∧ w = w' := by
  go_enter Try.func80, Try.ntmps80
  go_wp2_with (go_at_call 54; refine (within_all _ _ _ _).mono ?_; rintro e w' ⟨rfl, rfl⟩)
  go_ret
  exact ⟨rfl, rfl⟩
def lineF (_ : Nat) : Nat := 1
def halfF (n : Nat) : Nat := (n + 1) / 2
def treeRes (first : Nat → Nat) (a : Int) : List Int × Bool := if inn a 0 30 then (bt first 30 a.toNat, true) else ([], false)
theorem line_first (W : World) (n : Nat) (_ : 1 ≤ n) (_ : n ≤ 30) : Calls Try.prog 82 #[.int .i64 n] W fun e w' => e = .returned (.int .i64 (lineF n : Nat)) ∧ ∃ q, w' = W.drewN q := by
  go_enter Try.func82, Try.ntmps82
  go_wp2
  go_ret
  exact ⟨rfl, 0, rfl⟩
theorem half_first (W : World) (n : Nat) (_ : 1 ≤ n) (_ : n ≤ 30) : Calls Try.prog 84 #[.int .i64 n] W fun e w' => e = .returned (.int .i64 (halfF n : Nat)) ∧ ∃ q, w' = W.drewN q := by
  have hw : wrap64 ((n : Int) + 1) = ((n + 1 : Nat) : Int) := by unfold wrap64; omega
  have hd : wrap64 (Int.tdiv ((n + 1 : Nat) : Int) 2) = (halfF n : Nat) := by rw [Int.tdiv_eq_ediv_of_nonneg (by omega)]; unfold wrap64 halfF; omega
  go_enter Try.func84, Try.ntmps84
  go_wp2
  go_ret
  refine ⟨?_, 0, rfl⟩
  first | rfl | (rw [← hd]; rfl) | (simp [← hd]; done)
theorem LineTree_calls (a : Int) (w : World) : Calls Try.prog 45 #[.int .i64 a] w fun e w' => ∃ v, e = .returned (.tuple #[v, .bool (treeRes lineF a).2]) ∧ w'.ownsRow w.heap.size 3 1 v (treeRes lineF a).1.length (nums .i64 (treeRes lineF a).1) ∧ Below w.heap.size w w' := by
  have eg : ∀ args w, (callFunc 82 args).run Try.prog w = .ok (.enter 82 args) w := enters_of Try.func82 (by kernel_rfl) rfl
  unfold treeRes
  cases hr : inn a 0 30 with
  | true =>
    obtain ⟨n, rfl⟩ : ∃ n : Nat, a = n := ⟨a.toNat, by unfold inn at hr; simp at hr; omega⟩
    have hn : n ≤ 30 := by unfold inn at hr; simp at hr; omega
    have hb := built_calls 82 lineF (fun n h1 h2 => ⟨Nat.le_refl _, h1⟩) eg line_first 30 n hn hn
    rw [if_pos rfl, Int.toNat_natCast]
    generalize bt lineF 30 n = T at hb ⊢
    go_enter Try.func45, Try.ntmps45
    go_wp2_with (first | (go_at_call 80; refine (isTreeSize_all _ _).mono ?_; rw [hr]; rintro e w' ⟨rfl, rfl⟩) | (go_at_call 81; refine (hb _).mono ?_; rintro e w1 ⟨v, rfl, ho, hb1⟩))
    go_ret2
    exact ⟨v, rfl, ho, hb1⟩
  | false =>
    rw [if_neg (by decide)]
    go_enter Try.func45, Try.ntmps45
    go_wp2_with (first | (go_at_call 80; refine (isTreeSize_all _ _).mono ?_; rw [hr]; rintro e w' ⟨rfl, rfl⟩))
    go_ret2
    exact ⟨_, rfl, ⟨rfl, .inl ⟨rfl, rfl⟩⟩, Below.refl _ _⟩
theorem HalvesTree_calls (a : Int) (w : World) : Calls Try.prog 47 #[.int .i64 a] w fun e w' => ∃ v, e = .returned (.tuple #[v, .bool (treeRes halfF a).2]) ∧ w'.ownsRow w.heap.size 3 1 v (treeRes halfF a).1.length (nums .i64 (treeRes halfF a).1) ∧ Below w.heap.size w w' := by
  have eg : ∀ args w, (callFunc 84 args).run Try.prog w = .ok (.enter 84 args) w := enters_of Try.func84 (by kernel_rfl) rfl
  unfold treeRes
  cases hr : inn a 0 30 with
  | true =>
    obtain ⟨n, rfl⟩ : ∃ n : Nat, a = n := ⟨a.toNat, by unfold inn at hr; simp at hr; omega⟩
    have hn : n ≤ 30 := by unfold inn at hr; simp at hr; omega
    have hb := built_calls 84 halfF (fun n h1 h2 => by unfold halfF; omega) eg half_first 30 n hn hn
    rw [if_pos rfl, Int.toNat_natCast]
    generalize bt halfF 30 n = T at hb ⊢
    go_enter Try.func47, Try.ntmps47
    go_wp2_with (first | (go_at_call 80; refine (isTreeSize_all _ _).mono ?_; rw [hr]; rintro e w' ⟨rfl, rfl⟩) | (go_at_call 81; refine (hb _).mono ?_; rintro e w1 ⟨v, rfl, ho, hb1⟩))
    go_ret2
    exact ⟨v, rfl, ho, hb1⟩
  | false =>
    rw [if_neg (by decide)]
    go_enter Try.func47, Try.ntmps47
    go_wp2_with (first | (go_at_call 80; refine (isTreeSize_all _ _).mono ?_; rw [hr]; rintro e w' ⟨rfl, rfl⟩))
    go_ret2
    exact ⟨_, rfl, ⟨rfl, .inl ⟨rfl, rfl⟩⟩, Below.refl _ _⟩
end Go.Proofs.Ytlngkkdoikekbaa.Hand
