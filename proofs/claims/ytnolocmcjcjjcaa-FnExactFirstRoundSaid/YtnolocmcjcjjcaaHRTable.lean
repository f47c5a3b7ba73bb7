/- The program's RoundTable answers what the table of rounds says, in memory of its own; no conditions. -/
import Derived.Test.YtnolocmcjcjjcaaHRTops
import Derived.Test.YtnolocmcjcjjcaaWWords
import Derived.Test.YtnolocmcjcjjcaaWMore
namespace Go.Proofs.Ytnolocmcjcjjcaa.Hand
open Go Go.Proofs Go.RowKit Go.Proofs.YtnolocmcjcjjcaaW.PrintWords Go.Proofs.YtnolocmcjcjjcaaW.PrintMore
set_option maxRecDepth 100000
set_option linter.unusedVariables false
theorem infoI : (Try.prog.info? 3).map (fun i => (i.zero, i.size, i.bytes)) = some (some (.int .i64 0), 1, 8) := by kernel_rfl
theorem own_empty (w : World) : (w.alloc (.cells #[] 3)).ownsRow w.heap.size 3 1 (.slice (some ⟨w.heap.size, 0, none⟩) 0 0) 0 [] :=
  ⟨rfl, .inr ⟨w.heap.size, 0, #[], rfl, Nat.le_refl _, Array.getElem?_push_size (xs := w.heap) (x := Obj.cells #[] 3), Nat.le_refl _, Nat.zero_le _, rfl, rfl⟩⟩
theorem own_lower {w : World} {b b' : Nat} {e : TypeId} {size n : Nat} {v : Value} {xs : List Value} (h : w.ownsRow b e size v n xs) (hb : b' ≤ b) : w.ownsRow b' e size v n xs := by
  obtain ⟨h1, h2⟩ := h
  refine ⟨h1, ?_⟩
  rcases h2 with h2 | ⟨g, cap, cur, h3, h4, h5⟩
  · exact .inl h2
  · exact .inr ⟨g, cap, cur, h3, Nat.le_trans hb h4, h5⟩
def tableL (h e n : Nat) : List Int := (List.range n).map fun (m : Nat) => (fewR h e (m : Int) : Int)
theorem tableL_len (h e n : Nat) : (tableL h e n).length = n := by unfold tableL; simp
theorem tableL_snoc (h e n : Nat) : tableL h e (n + 1) = tableL h e n ++ [(fewR h e (n : Int) : Int)] := by unfold tableL; rw [List.range_succ, List.map_append]; rfl
def tableRes (e h f : Int) : List Int × Bool := if house e h f && decide (f ≤ 200) then (tableL h.toNat e.toNat (f.toNat + 1), true) else ([], false)
set_option maxHeartbeats 4000000 in
theorem RoundTable_calls (e h f : Int) (w : World) : Calls Try.prog 19 #[.int .i64 e, .int .i64 h, .int .i64 f] w fun r w' => ∃ v, r = .returned (.tuple #[v, .bool (tableRes e h f).2]) ∧ w'.ownsRow w.heap.size 3 1 v (tableRes e h f).1.length (nums .i64 (tableRes e h f).1) ∧ Below w.heap.size w w' := by
  unfold tableRes
  cases hc : house e h f with
  | false =>
    rw [Bool.false_and, if_neg (by decide)]
    go_enter Try.func19, Try.ntmps19
    go_wp2_with (first | (go_at_call 44; refine (house_all _ _ _ _).mono ?_; rw [hc]; rintro e w' ⟨rfl, rfl⟩))
    go_ret2
    exact ⟨_, rfl, ⟨rfl, .inl ⟨rfl, rfl⟩⟩, Below.refl _ _⟩
  | true =>
    by_cases h2 : f ≤ 200
    · rw [decide_eq_true h2, Bool.true_and, if_pos rfl]
      have hc2 := hc
      unfold house at hc2
      rw [Bool.and_eq_true, Bool.and_eq_true] at hc2
      obtain ⟨e, rfl, he1, he2⟩ := inn_nat hc2.1 (by omega)
      obtain ⟨h, rfl, hh1, hh2⟩ := inn_nat hc2.2.1 (by omega)
      obtain ⟨n, rfl, hn1, hn2⟩ := inn_nat hc2.2.2 (by omega)
      clear hc2
      have hf2 : decide ((n : Int) > 200) = false := decide_eq_false (by omega)
      have hf3 : ¬ ((n : Int) > 200) := by omega
      have hwn : wrap64 ((n : Int) + 1) = ((n + 1 : Nat) : Int) := by unfold wrap64; omega
      simp only [Int.toNat_natCast]
      go_enter Try.func19, Try.ntmps19
      go_wp2_with (first | (go_at_call 44; refine (house_all _ _ _ _).mono ?_; rw [hc]; rintro e w' ⟨rfl, rfl⟩) | (go_at_call 42; refine (newRounds_calls h (by omega) _).mono ?_; rintro r w1 ⟨rfl, HI⟩; have HT0 := Lib.hid HI.tab; have HS := Lib.hid HI.size; have HB := Lib.hid HI.below; clear HI))
      have HO0 := Lib.hid (own_empty w1)
      go_loopg [9, 10, 25] (n + 1) (fun gg s9 _ s25 wr => ∃ m : Nat, m ≤ n + 1 ∧ (n + 1) - m ≤ gg ∧ s25 = .int .i64 m ∧ Hid (wr.ownsRow w1.heap.size 3 1 s9 (tableL h e m).length (nums .i64 (tableL h e m))) ∧ Hid (Below w1.heap.size w1 wr))
      case atStart => exact ⟨0, Nat.zero_le _, by omega, rfl, HO0, Lib.hid (below_alloc (Below.refl _ _) _)⟩
      case round =>
        clear HO0
        obtain ⟨m, hm, hg, rfl, HO, HB1⟩ := hrel
        by_cases hlt : m < n + 1
        · have HTr := Lib.hid (HT0.out.below HB1.out HS.out)
          have HLEN := Lib.hid (show ((tableL h e m).length + 1) * 8 ≤ 140737488355328 by rw [tableL_len]; omega)
          go_wp2_with (first | (go_at_call 47; refine (fewest_calls h w.heap.size e (m : Int) _ (by omega) HTr.out).mono ?_; rintro r w2 ⟨rfl, q, rfl⟩) | ((with_reducible refine gate_builtin (b := .append) (xs := #[.tmp 28, .tmp 33]) rfl ?_); at_builtin; refine print_append_num (w0 := w1) w1.heap.size rfl (.tmp 28) (.tmp 33) 25 3 .i64 8 rfl Try.underlying25 infoI (by decide) u9 (tableL h e m) (fewR h e (m : Int) : Int) rfl rfl (own_move HO.out (fun _ _ => rfl)) (by first | exact HB1.out | exact pw_below_drewN HB1.out _) (by first | exact HB1.out.size | exact (pw_below_drewN HB1.out _).size) HLEN.out ?_; intro v5 w5 ho hb hg2 hat; rw [← tableL_snoc h e m] at ho; have n0_ := Lib.hid hb; have n1_ := Lib.hid ho; clear HB1; clear HO; have HB1 := n0_; have HO := n1_; clear n0_ n1_; clear ho hb hg2 hat))
          go_roundg ((n + 1) - (m + 1))
          case measure => omega
          case rel => exact ⟨m + 1, by omega, by omega, by go_num, HO, HB1⟩
        · obtain rfl : m = n + 1 := by omega
          clear hlt hm hg
          go_wp2_with fail
          go_ret2
          exact ⟨_, rfl, own_lower HO.out HB.out.size, below_step HB.out HB1.out⟩
    · have hf2 : decide (f > 200) = true := decide_eq_true (by omega)
      rw [decide_eq_false h2, Bool.and_false, if_neg (by decide)]
      have hf3 : 200 < f := by omega
      clear h2
      go_enter Try.func19, Try.ntmps19
      go_wp2_with (first | (go_at_call 44; refine (house_all _ _ _ _).mono ?_; rw [hc]; rintro e w' ⟨rfl, rfl⟩))
      go_ret2
      exact ⟨_, rfl, ⟨rfl, .inl ⟨rfl, rfl⟩⟩, Below.refl _ _⟩
end Go.Proofs.Ytnolocmcjcjjcaa.Hand
