/- The program's FirstRound answers the least of the lists of floors that its table of rounds lets in, in memory of its own; no conditions. -/
import Derived.Test.YtnolocmcjcjjcaaHFr
import Derived.Test.YtnolocmcjcjjcaaHRt
import Derived.Test.YtnolocmcjcjjcaaHRTable
namespace Go.Proofs.Ytnolocmcjcjjcaa.Fr
open Go Go.Proofs Go.RowKit Go.Shelf Go.Lib Go.Proofs.YtnolocmcjcjjcaaW.PrintWords Go.Proofs.YtnolocmcjcjjcaaW.PrintMore Go.Proofs.YtnolocmcjcjjcaaW.PrintLast
set_option maxRecDepth 100000
set_option linter.unusedVariables false
set_option linter.unusedSimpArgs false
attribute [local go_sem] max2_int min2_int max_two min_two

theorem isNaN_all (a : Int) (w : World) : Calls Try.prog 78 #[.int .i64 a] w fun r w' => r = .returned (.bool false) ∧ w = w' := by
  have hbe : (a != a) = false := by simp
  have hbe2 : (a == a) = true := by simp
  go_enter Try.func78, Try.ntmps78
  go_wp2
  go_ret
  exact ⟨by first | rfl | (simp; done), rfl⟩
def cmpI (a b : Int) : Int := if a < b then -1 else if a > b then 1 else 0
theorem cmp_all (a b : Int) (w : World) : Calls Try.prog 77 #[.int .i64 a, .int .i64 b] w fun r w' => r = .returned (.int .i64 (cmpI a b)) ∧ w = w' := by
  unfold cmpI
  by_cases h1 : a < b
  · rw [if_pos h1]
    go_enter Try.func77, Try.ntmps77
    go_wp2_with (go_at_call 78; refine (isNaN_all _ _).mono ?_; rintro e w' ⟨rfl, rfl⟩)
    go_ret
    exact ⟨by first | rfl | (simp; done), rfl⟩
  · rw [if_neg h1]
    by_cases h2 : a > b
    · rw [if_pos h2]
      go_enter Try.func77, Try.ntmps77
      go_wp2_with (go_at_call 78; refine (isNaN_all _ _).mono ?_; rintro e w' ⟨rfl, rfl⟩)
      go_ret
      exact ⟨by first | rfl | (simp; done), rfl⟩
    · rw [if_neg h2]
      go_enter Try.func77, Try.ntmps77
      go_wp2_with (go_at_call 78; refine (isNaN_all _ _).mono ?_; rintro e w' ⟨rfl, rfl⟩)
      go_ret
      exact ⟨by first | rfl | (simp; done), rfl⟩
/-- Whether a list comes before another one. -/
def lexLt : List Int → List Int → Bool
  | [], [] => false
  | [], _ :: _ => true
  | _ :: _, [] => false
  | a :: x, b :: y => if a = b then lexLt x y else decide (a < b)
set_option maxHeartbeats 1000000 in
theorem compare_calls (A B : Option Addr) (c d : Nat) (l m : List Int) (w : World) (hA : Kd.C (Kd.int .i64) w A l.length l) (hB : Kd.C (Kd.int .i64) w B m.length m) :
    Calls Try.prog 72 #[.slice A l.length c, .slice B m.length d] w fun e w' => ∃ z : Int, e = .returned (.int .i64 z) ∧ decide (z < 0) = lexLt l m ∧ ∃ q, w' = w.drewN q := by
  have HA := Lib.hid hA
  have HB := Lib.hid hB
  have HM := Lib.hid hA.2.1
  clear hA hB
  go_enter Try.func72, Try.ntmps72
  go_wp2
  go_loopg [5, 6, 7, 8, 11] l.length (fun gg _ _ _ _ s11 wr => ∃ i q : Nat, i ≤ l.length ∧ l.length - i ≤ gg ∧ s11 = .int .i64 i ∧ wr = w.drewN q ∧ Aside (i ≤ m.length ∧ lexLt (l.drop i) (m.drop i) = lexLt l m))
  case atStart => exact ⟨0, 0, Nat.zero_le _, by omega, rfl, rfl, ⟨Nat.zero_le _, rfl⟩⟩
  case round =>
    obtain ⟨i, q, hi, hg, rfl, rfl, HL⟩ := hrel
    have him := HL.out.1
    by_cases hlt : i < l.length
    · obtain ⟨ad, rfl, hcell⟩ := Rd.int_cell HA.out i hlt
      have hltz : (i : Int) < (l.length : Int) := by omega
      have hw : wrap64 ((i : Int) + 1) = ((i + 1 : Nat) : Int) := by have := HM.out; unfold wrap64; omega
      have hw1 : IntKind.i64.wrap ((i : Int) + 1) = ((i + 1 : Nat) : Int) := (i64_w _).trans hw
      by_cases hm : i < m.length
      · obtain ⟨bd, rfl, hcell2⟩ := Rd.int_cell HB.out i hm
        have hmz : (i : Int) < (m.length : Int) := by omega
        have hmz2 : ¬ (i : Int) ≥ (m.length : Int) := by omega
        have hs : lexLt (l.drop i) (m.drop i) = if l[i] = m[i] then lexLt (l.drop (i + 1)) (m.drop (i + 1)) else decide (l[i] < m[i]) := by
          rw [List.drop_eq_getElem_cons hlt, List.drop_eq_getElem_cons hm]; rfl
        obtain ⟨x, hx⟩ : ∃ x, l[i] = x := ⟨_, rfl⟩
        obtain ⟨y, hy⟩ : ∃ y, m[i] = y := ⟨_, rfl⟩
        rw [hx] at hcell hs
        rw [hy] at hcell2 hs
        have HS := Aside0.mk hs
        clear hs him
        by_cases he : x = y
        · subst he
          have hc0 : cmpI x x = 0 := by unfold cmpI; rw [if_neg (by omega), if_neg (by omega)]
          go_wp2_with (go_at_call 77; refine (cmp_all _ _ _).mono ?_; rw [hc0]; rintro e w' ⟨rfl, rfl⟩)
          go_roundg (l.length - (i + 1))
          case measure => omega
          case rel => exact ⟨i + 1, _, by omega, by omega, by go_num, rfl, ⟨by omega, by rw [← HL.out.2, HS.out]; simp⟩⟩
        · obtain ⟨z, hz⟩ : ∃ z, cmpI x y = z := ⟨_, rfl⟩
          have hzz : decide (z < 0) = decide (x < y) ∧ z ≠ 0 := by
            rw [← hz]; unfold cmpI
            by_cases h1 : x < y
            · rw [if_pos h1]; simp [h1]
            · rw [if_neg h1, if_pos (by omega)]; simp; omega
          have hz0 : z ≠ 0 := hzz.2
          have hz1 : (z != 0) = true := by simpa using hz0
          go_wp2_with (go_at_call 77; refine (cmp_all _ _ _).mono ?_; rw [hz]; rintro e w' ⟨rfl, rfl⟩)
          go_ret
          exact ⟨z, by first | rfl | (simp; done), by rw [← HL.out.2, HS.out, if_neg he, hzz.1], _, rfl⟩
      · have hmz2 : (i : Int) ≥ (m.length : Int) := by omega
        have hml : m.drop i = [] := List.drop_eq_nil_of_le (by omega)
        have HS := Aside0.mk (show lexLt (l.drop i) (m.drop i) = false by rw [hml, List.drop_eq_getElem_cons hlt]; rfl)
        clear hml
        go_wp2
        go_ret
        exact ⟨1, by first | rfl | (simp; done), by rw [← HL.out.2, HS.out]; rfl, _, rfl⟩
    · have hkn : i = l.length := by omega
      subst hkn
      have hltz : ¬ (l.length : Int) < (l.length : Int) := by omega
      have hll : l.drop l.length = [] := List.drop_eq_nil_of_le (by omega)
      by_cases hm : l.length < m.length
      · have hmz : (l.length : Int) < (m.length : Int) := by omega
        have HS := Aside0.mk (show lexLt (l.drop l.length) (m.drop l.length) = true by rw [hll, List.drop_eq_getElem_cons hm]; rfl)
        clear hll
        go_wp2
        go_ret
        exact ⟨-1, by first | rfl | (simp; done), by rw [← HL.out.2, HS.out]; rfl, _, rfl⟩
      · have hmz : ¬ (l.length : Int) < (m.length : Int) := by omega
        have HS := Aside0.mk (show lexLt (l.drop l.length) (m.drop l.length) = false by rw [hll, List.drop_eq_nil_of_le (by omega)]; rfl)
        clear hll
        go_wp2
        go_ret
        exact ⟨0, by first | rfl | (simp; done), by rw [← HL.out.2, HS.out]; rfl, _, rfl⟩

/-- The first floors, so many, of a round; row: what one round less covers. -/
def fst (row : Nat → Int) (e : Nat) (n : Int) : Nat → Int → List Int → Option (List Int)
  | 0, _, out => some out
  | k + 1, last, out => if max (last + 1) (n - cov row e k) > n ∨ max (last + 1) (n - cov row e k) - last - 1 > row (e - k - 1) then none else fst row e n k (max (last + 1) (n - cov row e k)) (out ++ [max (last + 1) (n - cov row e k)])
theorem cov_bd (row : Nat → Int) (hb : ∀ j, 0 ≤ row j ∧ row j ≤ 1000000000) (e k : Nat) (hk : k ≤ 10) : 0 ≤ cov row e k ∧ cov row e k ≤ 12000000000 := by
  have := sumD_bd (fun j => row (e - j)) (fun j => hb (e - j)) (k + 1)
  unfold cov
  omega
set_option maxHeartbeats 4000000 in
theorem firstOf_calls (h b t e n many : Nat) (w : World) (HT : TabR h w b) (hbw : b < w.heap.size) (ht1 : 1 ≤ t) (ht : t ≤ 1000) (he : e ≤ 10) (hn : n ≤ 1000) (hm : many ≤ e) :
    Calls Try.prog 71 #[.pointer (some ⟨b, 0, none⟩), .int .i64 t, .int .i64 e, .int .i64 n, .int .i64 many] w fun r w' => ∃ v, r = .returned (.tuple #[v, .bool (fst (rr h (t - 1)) e n many 0 []).isSome]) ∧ w'.ownsRow w.heap.size 3 1 v ((fst (rr h (t - 1)) e n many 0 []).getD []).length (nums .i64 ((fst (rr h (t - 1)) e n many 0 []).getD [])) ∧ Below w.heap.size w w' := by
  have HR := Lib.hid HT
  clear HT
  obtain ⟨R, hR⟩ : ∃ R, R = fst (rr h (t - 1)) e n many 0 [] := ⟨_, rfl⟩
  rw [← hR]
  have HRR := Lib.hid hR.symm
  clear hR
  have hwm : wrap64 ((many : Int) - 1) = (many : Int) - 1 := by unfold wrap64; omega
  have hwm1 : IntKind.i64.wrap ((many : Int) - 1) = (many : Int) - 1 := (i64_w _).trans hwm
  have HO0 := Lib.hid (Hand.own_empty w)
  go_enter Try.func71, Try.ntmps71
  go_wp2
  go_loopg [12, 13, 14, 15] (many + 1) (fun gg s12 s13 s14 _ wr => ∃ (k : Nat) (last : Int) (out : List Int), k ≤ many ∧ k ≤ gg ∧ out.length + k = many ∧ 0 ≤ last ∧ last ≤ n ∧ s13 = .int .i64 last ∧ s14 = .int .i64 ((k : Int) - 1) ∧ Hid (wr.ownsRow w.heap.size 3 1 s12 out.length (nums .i64 out)) ∧ Hid (Below w.heap.size w wr) ∧ Hid (fst (rr h (t - 1)) e n k last out = R))
  case atStart => exact ⟨many, 0, [], Nat.le_refl _, by omega, by simp, by omega, by omega, rfl, rfl, HO0, Lib.hid (below_alloc (Below.refl _ _) _), HRR⟩
  case round =>
    clear HRR HO0
    obtain ⟨k, last, out, hk, hg, hol, hl0, hl1, rfl, rfl, HO, HB, HRR⟩ := hrel
    cases k with
    | zero =>
      have hneg : ¬ (((0 : Nat) : Int) - 1 ≥ 0) := by omega
      have hneg2 : ¬ ((-1 : Int) ≥ 0) := by omega
      have hsome : some out = R := HRR.out
      subst hsome
      go_wp2
      go_ret2
      exact ⟨_, by first | rfl | (simp; done), HO.out, HB.out⟩
    | succ k =>
      have hk1 : (((k + 1 : Nat) : Int) - 1) = (k : Int) := by omega
      rw [hk1]
      have hpos : (k : Int) ≥ 0 := by omega
      have hTr := Lib.hid (HR.out.below HB.out hbw)
      have hbd := rr_bd h (t - 1)
      have hcv := cov_bd (rr h (t - 1)) (fun j => rr_bd h (t - 1) j) e k (by omega)
      have hcall := Lib.hid (fun W (HT' : TabR h W b) => cover_calls b t e k (rr h (t - 1)) W ht1 ht he (by omega) (fun j => rr_bd h (t - 1) j) (fun j hj => HT'.cell (t - 1) j (by omega) hj))
      have hcell := hTr.out.cell (t - 1) (e - k - 1) (by omega) (by omega)
      have hb1 := rr_bd h (t - 1) (e - k - 1)
      have HREC : Hid ((if max (last + 1) (n - cov (rr h (t - 1)) e k) > n ∨ max (last + 1) (n - cov (rr h (t - 1)) e k) - last - 1 > rr h (t - 1) (e - k - 1) then none else fst (rr h (t - 1)) e n k (max (last + 1) (n - cov (rr h (t - 1)) e k)) (out ++ [max (last + 1) (n - cov (rr h (t - 1)) e k)])) = R) := Lib.hid HRR.out
      obtain ⟨C, hC⟩ : ∃ C, cov (rr h (t - 1)) e k = C := ⟨_, rfl⟩
      rw [hC] at hcv HREC hcall
      obtain ⟨X, hX⟩ : ∃ X, rr h (t - 1) (e - k - 1) = X := ⟨_, rfl⟩
      rw [hX] at hcell hb1 HREC
      clear hbd HRR hC hX
      obtain ⟨F, hF⟩ : ∃ F, max (last + 1) ((n : Int) - C) = F := ⟨_, rfl⟩
      rw [hF] at HREC
      have w1 : wrap64 (last + 1) = last + 1 := by unfold wrap64; omega
      have w2 : wrap64 ((n : Int) - C) = (n : Int) - C := by unfold wrap64; omega
      have w1' : IntKind.i64.wrap (last + 1) = last + 1 := (i64_w _).trans w1
      have w2' : IntKind.i64.wrap ((n : Int) - C) = (n : Int) - C := (i64_w _).trans w2
      have hFb : 0 ≤ F ∧ F ≤ 1001 := by omega
      have w5 : wrap64 ((t : Int) - 1) = ((t - 1 : Nat) : Int) := by unfold wrap64; omega
      have w6 : wrap64 ((e : Int) - (k : Int)) = ((e - k : Nat) : Int) := by unfold wrap64; omega
      have w7 : wrap64 (((e - k : Nat) : Int) - 1) = ((e - k - 1 : Nat) : Int) := by unfold wrap64; omega
      have w5' : IntKind.i64.wrap ((t : Int) - 1) = ((t - 1 : Nat) : Int) := (i64_w _).trans w5
      have w6' : IntKind.i64.wrap ((e : Int) - (k : Int)) = ((e - k : Nat) : Int) := (i64_w _).trans w6
      have w7' : IntKind.i64.wrap (((e - k : Nat) : Int) - 1) = ((e - k - 1 : Nat) : Int) := (i64_w _).trans w7
      have w8 : wrap64 ((k : Int) - 1) = (k : Int) - 1 := by unfold wrap64; omega
      have w8' : IntKind.i64.wrap ((k : Int) - 1) = (k : Int) - 1 := (i64_w _).trans w8
      have i1 : 0 ≤ ((t - 1 : Nat) : Int) := by omega
      have i2 : ((t - 1 : Nat) : Int) < 1001 := by omega
      have i3 : 0 ≤ ((e - k - 1 : Nat) : Int) := by omega
      have i4 : ((e - k - 1 : Nat) : Int) < 11 := by omega
      have HLEN := Lib.hid (show (out.length + 1) * 8 ≤ 140737488355328 by omega)
      rcases (show (F = last + 1 ∧ ¬ ((n : Int) - C > last + 1)) ∨ (F = (n : Int) - C ∧ (n : Int) - C > last + 1) by omega) with ⟨hFe, hcmp⟩ | ⟨hFe, hcmp⟩
      all_goals (
        clear hF
        subst hFe)
      · have w3 : wrap64 (last + 1 - last) = last + 1 - last := by unfold wrap64; omega
        have w4 : wrap64 (last + 1 - last - 1) = last + 1 - last - 1 := by unfold wrap64; omega
        have w3' : IntKind.i64.wrap (last + 1 - last) = last + 1 - last := (i64_w _).trans w3
        have w4' : IntKind.i64.wrap (last + 1 - last - 1) = last + 1 - last - 1 := (i64_w _).trans w4
        by_cases hFn : last + 1 > (n : Int)
        · rw [if_pos (Or.inl hFn)] at HREC
          have hnone : none = R := HREC.out
          subst hnone
          go_wp2_with (go_at_call 68; refine (hcall.out _ (by first | exact hTr.out | exact hTr.out.drewN _)).mono ?_; rintro e w' ⟨rfl, rfl⟩)
          go_ret2
          exact ⟨_, by first | rfl | (simp; done), ⟨rfl, .inl ⟨rfl, rfl⟩⟩, HB.out⟩
        · by_cases hX2 : last + 1 - last - 1 > X
          · exact absurd hX2 (by omega)
          · rw [if_neg (by omega)] at HREC
            go_wp2_with (first | (go_at_call 68; refine (hcall.out _ (by first | exact hTr.out | exact hTr.out.drewN _)).mono ?_; rintro e w' ⟨rfl, rfl⟩) | ((with_reducible refine gate_builtin (b := .append) (xs := #[.tmp 55, .tmp 57]) rfl ?_); at_builtin; refine print_append_num (w0 := w) w.heap.size rfl (.tmp 55) (.tmp 57) 25 3 .i64 8 rfl Try.underlying25 Hand.infoI (by decide) u12 out (last + 1) rfl rfl HO.out HB.out HB.out.size HLEN.out ?_; intro v5 w5 ho hb hg2 hat; have n0_ := Lib.hid hb; have n1_ := Lib.hid ho; clear HB; clear HO; have HB := n0_; have HO := n1_; clear n0_ n1_; clear ho hb hg2 hat))
            go_roundg k
            case measure => omega
            case rel => exact ⟨k, last + 1, out ++ [last + 1], by omega, Nat.le_refl _, by rw [List.length_append, List.length_singleton]; omega, by omega, by omega, by first | rfl | go_num, by first | rfl | go_num, HO, HB, HREC⟩
      · have w3 : wrap64 ((n : Int) - C - last) = (n : Int) - C - last := by unfold wrap64; omega
        have w4 : wrap64 ((n : Int) - C - last - 1) = (n : Int) - C - last - 1 := by unfold wrap64; omega
        have w3' : IntKind.i64.wrap ((n : Int) - C - last) = (n : Int) - C - last := (i64_w _).trans w3
        have w4' : IntKind.i64.wrap ((n : Int) - C - last - 1) = (n : Int) - C - last - 1 := (i64_w _).trans w4
        have hFn : ¬ ((n : Int) - C > (n : Int)) := by omega
        by_cases hX2 : (n : Int) - C - last - 1 > X
        · rw [if_pos (Or.inr hX2)] at HREC
          have hnone : none = R := HREC.out
          subst hnone
          go_wp2_with (go_at_call 68; refine (hcall.out _ (by first | exact hTr.out | exact hTr.out.drewN _)).mono ?_; rintro e w' ⟨rfl, rfl⟩)
          go_ret2
          exact ⟨_, by first | rfl | (simp; done), ⟨rfl, .inl ⟨rfl, rfl⟩⟩, HB.out⟩
        · rw [if_neg (by omega)] at HREC
          go_wp2_with (first | (go_at_call 68; refine (hcall.out _ (by first | exact hTr.out | exact hTr.out.drewN _)).mono ?_; rintro e w' ⟨rfl, rfl⟩) | ((with_reducible refine gate_builtin (b := .append) (xs := #[.tmp 55, .tmp 57]) rfl ?_); at_builtin; refine print_append_num (w0 := w) w.heap.size rfl (.tmp 55) (.tmp 57) 25 3 .i64 8 rfl Try.underlying25 Hand.infoI (by decide) u12 out ((n : Int) - C) rfl rfl HO.out HB.out HB.out.size HLEN.out ?_; intro v5 w5 ho hb hg2 hat; have n0_ := Lib.hid hb; have n1_ := Lib.hid ho; clear HB; clear HO; have HB := n0_; have HO := n1_; clear n0_ n1_; clear ho hb hg2 hat))
          go_roundg k
          case measure => omega
          case rel => exact ⟨k, (n : Int) - C, out ++ [(n : Int) - C], by omega, Nat.le_refl _, by rw [List.length_append, List.length_singleton]; omega, by omega, by omega, by first | rfl | go_num, by first | rfl | go_num, HO, HB, HREC⟩

/-- Of lists of 1, 2, .. floors the least one that there is. -/
def bestF (row : Nat → Int) (e : Nat) (n : Int) : Nat → Nat → List Int → Bool → List Int
  | 0, _, best, _ => best
  | k + 1, many, best, found =>
    match fst row e n many 0 [] with
    | none => bestF row e n k (many + 1) best found
    | some L => if !found || lexLt L best then bestF row e n k (many + 1) L true else bestF row e n k (many + 1) best found
def firstR (h e n : Nat) : List Int := if n = 0 then [] else bestF (rr h (fewR h e n - 1)) e n (min h e) 1 [] false
end Go.Proofs.Ytnolocmcjcjjcaa.Fr
