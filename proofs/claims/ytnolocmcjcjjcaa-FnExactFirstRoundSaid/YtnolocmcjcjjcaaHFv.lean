/- The program's table of rounds gives the first round: the least list of floors; no conditions. -/
import Derived.Test.YtnolocmcjcjjcaaHFw
namespace Go.Proofs.Ytnolocmcjcjjcaa.Fr
open Go Go.Proofs Go.RowKit Go.Shelf Go.Lib Go.Proofs.YtnolocmcjcjjcaaW.PrintWords Go.Proofs.YtnolocmcjcjjcaaW.PrintMore Go.Proofs.YtnolocmcjcjjcaaW.PrintLast
set_option maxRecDepth 100000
set_option linter.unusedVariables false
set_option linter.unusedSimpArgs false
attribute [local go_sem] max2_int min2_int max_two min_two
theorem firstT_le (p : Nat → Bool) : ∀ k t, k + t ≤ 1001 → firstT p 1000 k t ≤ 1000
  | 0, _, _ => Nat.le_refl _
  | k + 1, t, h => by
    unfold firstT
    split
    · omega
    · exact firstT_le p k (t + 1) (by omega)
theorem firstT_ge (p : Nat → Bool) : ∀ k t, t ≤ 1000 → k + t ≤ 1001 → t ≤ firstT p 1000 k t
  | 0, t, h, _ => h
  | k + 1, t, h, h2 => by
    unfold firstT
    split
    · exact Nat.le_refl _
    · by_cases c : t + 1 ≤ 1000
      · exact Nat.le_trans (Nat.le_succ t) (firstT_ge p k (t + 1) c (by omega))
      · obtain rfl : k = 0 := by omega
        exact h
theorem fewR_bd (h e : Nat) (n : Nat) (hn : 1 ≤ n) : 1 ≤ fewR h e n ∧ fewR h e n ≤ 1000 := by
  refine ⟨?_, firstT_le _ _ _ (Nat.le_refl _)⟩
  have h0 : fewR h e n = firstT (fun t => decide (rr h t e ≥ n)) 1000 1000 1 := by
    unfold fewR
    rw [show (1001 : Nat) = 1000 + 1 from rfl]
    show (if decide (rr h 0 e ≥ (n : Int)) = true then 0 else firstT (fun t => decide (rr h t e ≥ n)) 1000 1000 1) = _
    rw [if_neg (by simp [rr]; omega)]
  rw [h0]
  exact firstT_ge _ _ _ (by omega) (by omega)
theorem bestF_none {row : Nat → Int} {e : Nat} {n : Int} {k many : Nat} {best : List Int} {found : Bool} (h : fst row e n many 0 [] = none) : bestF row e n (k + 1) many best found = bestF row e n k (many + 1) best found := by
  rw [bestF, h]
theorem bestF_some {row : Nat → Int} {e : Nat} {n : Int} {k many : Nat} {best L : List Int} {found : Bool} (h : fst row e n many 0 [] = some L) : bestF row e n (k + 1) many best found = if !found || lexLt L best then bestF row e n k (many + 1) L true else bestF row e n k (many + 1) best found := by
  rw [bestF, h]
theorem own_kept {w w1 : World} {base : Nat} {e : TypeId} {size n : Nat} {v : Value} {xs : List Value} (h : w.ownsRow base e size v n xs) (hb : Below w.heap.size w w1) : w1.ownsRow base e size v n xs := by
  obtain ⟨h1, h2⟩ := h
  refine ⟨h1, ?_⟩
  rcases h2 with h2 | ⟨g, cap, cur, h3, h4, h5, h6⟩
  · exact .inl h2
  · exact .inr ⟨g, cap, cur, h3, h4, (hb.block g (Array.getElem?_eq_some_iff.1 h5).1).trans h5, h6⟩
set_option maxHeartbeats 4000000 in
theorem first_calls (h b e n : Nat) (w : World) (HT : TabR h w b) (hhand : w.cell? ⟨b, 0, none⟩ = some (.int .i64 h)) (hbw : b < w.heap.size) (he1 : 1 ≤ e) (he : e ≤ 10) (hn : n ≤ 1000) :
    Calls Try.prog 49 #[.pointer (some ⟨b, 0, none⟩), .int .i64 e, .int .i64 n] w fun r w' => ∃ v, r = .returned v ∧ w'.ownsRow w.heap.size 3 1 v (firstR h e n).length (nums .i64 (firstR h e n)) ∧ Below w.heap.size w w' := by
  have HR := Lib.hid HT
  have HH := Lib.hid hhand
  have HO0 := Lib.hid (Hand.own_empty w)
  have HB0 := Lib.hid (below_alloc (Below.refl w.heap.size w) (.cells #[] 3))
  clear HT hhand
  unfold firstR
  by_cases hn0 : n = 0
  · rw [if_pos hn0]
    subst hn0
    have hc := fun W hT => fewest_calls h b e 0 W he hT
    have hpos : ¬ (((0 : Nat) : Int) > 0) := by omega
    go_enter Try.func49, Try.ntmps49
    go_wp2_with (go_at_call 47; refine (hc _ (HR.out.below HB0.out hbw)).mono ?_; rintro r w2 ⟨rfl, q, rfl⟩)
    go_loopg [7, 8, 10, 11, 12] 0 (fun gg s7 s8 s10 _ _ wr => s10 = .int .i64 1 ∧ Hid (wr.ownsRow w.heap.size 3 1 s7 0 []) ∧ Hid (Below w.heap.size w wr))
    case atStart => exact ⟨rfl, Lib.hid (own_move HO0.out (fun _ _ => rfl)), Lib.hid (pw_below_drewN HB0.out _)⟩
    case round =>
      obtain ⟨rfl, HO, HB⟩ := hrel
      have hcell : wr.cell? ⟨b, 0, none⟩ = some (.int .i64 h) := (HB.out.cell (p := ⟨b, 0, none⟩) hbw).trans HH.out
      go_wp2
      all_goals (
        go_ret
        exact ⟨_, rfl, HO.out, HB.out⟩)
  · rw [if_neg hn0]
    obtain ⟨t, ht⟩ : ∃ t, fewR h e n = t := ⟨_, rfl⟩
    have htb := fewR_bd h e n (by omega)
    rw [ht] at htb
    have hc := fun W hT => fewest_calls h b e n W he hT
    rw [ht] at hc ⊢
    obtain ⟨m, hm⟩ : ∃ m, min h e = m := ⟨_, rfl⟩
    rw [hm]
    obtain ⟨R, hR⟩ : ∃ R, R = bestF (rr h (t - 1)) e n m 1 [] false := ⟨_, rfl⟩
    rw [← hR]
    have HRR := Lib.hid hR.symm
    clear hR ht
    have hpos : ((n : Nat) : Int) > 0 := by omega
    go_enter Try.func49, Try.ntmps49
    go_wp2_with (go_at_call 47; refine (hc _ (HR.out.below HB0.out hbw)).mono ?_; rintro r w2 ⟨rfl, q, rfl⟩)
    go_loopg [7, 8, 10, 11, 12] (m + 1) (fun gg s7 s8 s10 _ _ wr => ∃ (k many : Nat) (best : List Int) (found : Bool), k + many = m + 1 ∧ 1 ≤ many ∧ k ≤ gg ∧ s8 = .bool found ∧ s10 = .int .i64 many ∧ Hid (wr.ownsRow w.heap.size 3 1 s7 best.length (nums .i64 best)) ∧ Hid (Below w.heap.size w wr) ∧ Hid (bestF (rr h (t - 1)) e n k many best found = R))
    case atStart => exact ⟨m, 1, [], false, rfl, Nat.le_refl _, by omega, rfl, rfl, Lib.hid (own_move HO0.out (fun _ _ => rfl)), Lib.hid (pw_below_drewN HB0.out _), HRR⟩
    case round =>
      clear HRR HO0 HB0
      obtain ⟨k, many, best, found, hkm, hm1, hkg, rfl, rfl, HO, HB, HRR⟩ := hrel
      have hcell : wr.cell? ⟨b, 0, none⟩ = some (.int .i64 h) := (HB.out.cell (p := ⟨b, 0, none⟩) hbw).trans HH.out
      cases k with
      | zero =>
        have hbest : best = R := HRR.out
        subst hbest
        have hgt : (many : Int) > (m : Int) := by omega
        have hmm : (m : Int) = h ∨ (m : Int) = e := by omega
        have hle : (m : Int) ≤ h ∧ (m : Int) ≤ e := by omega
        go_wp2
        all_goals (
          go_ret
          exact ⟨_, rfl, HO.out, HB.out⟩)
      | succ k =>
        have hle1 : (many : Int) ≤ (h : Int) := by omega
        have hle2 : (many : Int) ≤ (e : Int) := by omega
        have HTr := Lib.hid (HR.out.below HB.out hbw)
        have hbwr : b < wr.heap.size := Nat.lt_of_lt_of_le hbw HB.out.size
        have hcon := firstOf_calls h b t e n many wr HTr.out hbwr htb.1 htb.2 he hn (by omega)
        have hwm : wrap64 ((many : Int) + 1) = ((many + 1 : Nat) : Int) := by unfold wrap64; omega
        have hwm1 : IntKind.i64.wrap ((many : Int) + 1) = ((many + 1 : Nat) : Int) := (i64_w _).trans hwm
        obtain ⟨Z, hZ⟩ : ∃ Z, fst (rr h (t - 1)) e n many 0 [] = Z := ⟨_, rfl⟩
        have HZ := Lib.hid hZ
        rw [hZ] at hcon
        clear hZ
        obtain ⟨Ab, cb, rfl, _, _⟩ := Rd.own_C HO.out
        have HSZ := Lib.hid HB.out.size
        have HKM := Lib.hid hkm
        have HMM := Lib.hid hm
        have HTB := Lib.hid htb
        clear hkm hm htb hbwr HTr
        cases Z with
        | none =>
          simp only [Option.isSome_none, Option.getD_none] at hcon
          have HCON := Lib.hid hcon
          clear hcon
          have HREC := Lib.hid ((bestF_none HZ.out).symm.trans HRR.out)
          clear HZ HRR
          go_wp2_with (go_at_call 71; refine HCON.out.mono ?_; rintro r w2 ⟨v2, rfl, _, hb2⟩; have n1_ := Lib.hid (own_kept HO.out hb2); have n2_ := Lib.hid (below_step HB.out hb2); clear HO; clear HB; have HO := n1_; have HB := n2_; clear n1_ n2_ hb2)
          all_goals (
            go_roundg k
            case measure => omega
            case rel => exact ⟨k, many + 1, best, found, by have := HKM.out; omega, by omega, Nat.le_refl _, rfl, by go_num, HO, HB, HREC⟩)
        | some L =>
          simp only [Option.isSome_some, Option.getD_some] at hcon
          have HCON := Lib.hid hcon
          clear hcon
          cases found with
          | false =>
            have HREC := Lib.hid ((bestF_some (found := false) HZ.out).symm.trans HRR.out)
            rw [if_pos (by rfl)] at HREC
            clear HZ HRR
            go_wp2_with (go_at_call 71; refine HCON.out.mono ?_; rintro r w2 ⟨v2, rfl, ho2, hb2⟩; have n1_ := Lib.hid (Hand.own_lower ho2 HSZ.out); have n2_ := Lib.hid (below_step HB.out hb2); clear HO; clear HB; have HO := n1_; have HB := n2_; clear n1_ n2_ hb2 ho2)
            all_goals (
              go_roundg k
              case measure => omega
              case rel => exact ⟨k, many + 1, L, true, by have := HKM.out; omega, by omega, Nat.le_refl _, rfl, by go_num, HO, HB, HREC⟩)
          | true =>
            have hstep := (bestF_some (found := true) HZ.out).symm.trans HRR.out
            rw [Bool.not_true, Bool.false_or] at hstep
            obtain ⟨X, hX⟩ : ∃ X, lexLt L best = X := ⟨_, rfl⟩
            have HLEX := Lib.hid hX
            rw [hX] at hstep
            clear hX HZ HRR
            cases X with
            | true =>
              rw [if_pos rfl] at hstep
              have HREC := Lib.hid hstep
              clear hstep
              go_wp2_with (first | (go_at_call 71; refine HCON.out.mono ?_; rintro r w2 ⟨v2, rfl, ho2, hb2⟩; have n1_ := Lib.hid (Hand.own_lower ho2 HSZ.out); have n3_ := Lib.hid (own_kept HO.out hb2); have n2_ := Lib.hid (below_step HB.out hb2); clear HO; clear HB; obtain ⟨A2, c2, rfl, _, hC2⟩ := Rd.own_C n1_.out; obtain ⟨Ab2, cb2, hv2, _, hCb⟩ := Rd.own_C n3_.out; injection hv2 with ev1 _ ev2; subst ev1; subst ev2; have HO2 := n1_; have HO := n3_; have HB := n2_; have HC2 := Lib.hid hC2; have HCb := Lib.hid hCb; clear n1_ n2_ n3_ hb2 ho2 hC2 hCb) | (go_at_call 72; refine (compare_calls _ _ _ _ L best _ (by first | exact HC2.out | exact Kd.C_drewN HC2.out _) (by first | exact HCb.out | exact Kd.C_drewN HCb.out _)).mono ?_; rintro r w3 ⟨z, rfl, hz, q2, rfl⟩; have hz2 : z < 0 := of_decide_eq_true (hz.trans HLEX.out); clear hz))
              all_goals (
                go_roundg k
                case measure => omega
                case rel => exact ⟨k, many + 1, L, true, by have := HKM.out; omega, by omega, Nat.le_refl _, rfl, by go_num, Lib.hid (own_move HO2.out (fun _ _ => rfl)), Lib.hid (by first | exact pw_below_drewN HB.out _ | exact HB.out), HREC⟩)
            | false =>
              rw [if_neg (by decide)] at hstep
              have HREC := Lib.hid hstep
              clear hstep
              go_wp2_with (first | (go_at_call 71; refine HCON.out.mono ?_; rintro r w2 ⟨v2, rfl, ho2, hb2⟩; have n1_ := Lib.hid (Hand.own_lower ho2 HSZ.out); have n3_ := Lib.hid (own_kept HO.out hb2); have n2_ := Lib.hid (below_step HB.out hb2); clear HO; clear HB; obtain ⟨A2, c2, rfl, _, hC2⟩ := Rd.own_C n1_.out; obtain ⟨Ab2, cb2, hv2, _, hCb⟩ := Rd.own_C n3_.out; injection hv2 with ev1 _ ev2; subst ev1; subst ev2; have HO2 := n1_; have HO := n3_; have HB := n2_; have HC2 := Lib.hid hC2; have HCb := Lib.hid hCb; clear n1_ n2_ n3_ hb2 ho2 hC2 hCb) | (go_at_call 72; refine (compare_calls _ _ _ _ L best _ (by first | exact HC2.out | exact Kd.C_drewN HC2.out _) (by first | exact HCb.out | exact Kd.C_drewN HCb.out _)).mono ?_; rintro r w3 ⟨z, rfl, hz, q2, rfl⟩; have hz2 : ¬ z < 0 := of_decide_eq_false (hz.trans HLEX.out); clear hz))
              all_goals (
                go_roundg k
                case measure => omega
                case rel => exact ⟨k, many + 1, best, true, by have := HKM.out; omega, by omega, Nat.le_refl _, rfl, by go_num, Lib.hid (own_move HO.out (fun _ _ => rfl)), Lib.hid (by first | exact pw_below_drewN HB.out _ | exact HB.out), HREC⟩)

def firRes (e h f : Int) : List Int × Bool := if Hand.house e h f then (firstR h.toNat e.toNat f.toNat, true) else ([], false)
set_option maxHeartbeats 1000000 in
theorem FirstRound_calls (e h f : Int) (w : World) : Calls Try.prog 24 #[.int .i64 e, .int .i64 h, .int .i64 f] w fun r w' => ∃ v, r = .returned (.tuple #[v, .bool (firRes e h f).2]) ∧ w'.ownsRow w.heap.size 3 1 v (firRes e h f).1.length (nums .i64 (firRes e h f).1) ∧ Below w.heap.size w w' := by
  unfold firRes
  cases hc : Hand.house e h f with
  | false =>
    rw [if_neg (by decide)]
    go_enter Try.func24, Try.ntmps24
    go_wp2_with (first | (go_at_call 44; refine (Hand.house_all _ _ _ _).mono ?_; rw [hc]; rintro e w' ⟨rfl, rfl⟩))
    go_ret2
    exact ⟨_, rfl, ⟨rfl, .inl ⟨rfl, rfl⟩⟩, Below.refl _ _⟩
  | true =>
    rw [if_pos rfl]
    have hc2 := hc
    unfold Hand.house at hc2
    rw [Bool.and_eq_true, Bool.and_eq_true] at hc2
    obtain ⟨e, rfl, he1, he2⟩ := Hand.inn_nat hc2.1 (by omega)
    obtain ⟨h, rfl, hh1, hh2⟩ := Hand.inn_nat hc2.2.1 (by omega)
    obtain ⟨n, rfl, hn1, hn2⟩ := Hand.inn_nat hc2.2.2 (by omega)
    clear hc2
    simp only [Int.toNat_natCast]
    go_enter Try.func24, Try.ntmps24
    go_wp2_with (first | (go_at_call 44; refine (Hand.house_all _ _ _ _).mono ?_; rw [hc]; rintro e w' ⟨rfl, rfl⟩) | (go_at_call 42; refine (newRounds_calls h (by omega) _).mono ?_; rintro r w1 ⟨rfl, HI⟩; have HT0 := Lib.hid HI.tab; have HS := Lib.hid HI.size; have HHD := Lib.hid HI.hand; have HB := Lib.hid HI.below; clear HI) | (go_at_call 49; refine (first_calls h w.heap.size e n _ HT0.out HHD.out HS.out (by omega) (by omega) (by omega)).mono ?_; rintro r w2 ⟨v, rfl, ho, hb⟩; have HO := Lib.hid (Hand.own_lower ho (Nat.le_of_lt HS.out)); have HB2 := Lib.hid (below_step HB.out hb); clear ho hb))
    go_ret2
    exact ⟨_, rfl, HO.out, HB2.out⟩
end Go.Proofs.Ytnolocmcjcjjcaa.Fr
