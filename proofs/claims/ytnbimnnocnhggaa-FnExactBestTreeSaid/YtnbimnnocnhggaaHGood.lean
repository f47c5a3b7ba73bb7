/- The program's GoodFloors returns, in a new row, the floors that the table of reaches allows as first ones; no conditions. -/
import Derived.Test.YtnbimnnocnhggaaHTops
import Derived.Deep.DeepCutAuto
import Derived.OwnWalk
import Derived.Test.YtnbimnnocnhggaaWWords
import Derived.Test.YtnbimnnocnhggaaWLast
import Derived.Test.YtnbimnnocnhggaaWMore
namespace Go.Proofs.Ytnbimnnocnhggaa.Hand
open Go Go.Proofs Go.RowKit
open Go.Proofs.YtnbimnnocnhggaaW.PrintWords Go.Proofs.YtnbimnnocnhggaaW.PrintLast Go.Proofs.YtnbimnnocnhggaaW.PrintMore
set_option maxRecDepth 100000

theorem info3 : (Try.prog.info? 3).map (fun i => (i.zero, i.size, i.bytes)) = some (some (.int .i64 0), 1, 8) := by kernel_rfl

/-- The floors from f on, d of them, from which one may drop first. -/
def goodsFrom (b a n : Int) : Nat → Int → List Int
  | 0, _ => []
  | d + 1, f => if f - 1 ≤ b ∧ n - f ≤ a then f :: goodsFrom b a n d (f + 1) else goodsFrom b a n d (f + 1)
theorem goods_length (b a n : Int) (d : Nat) : ∀ f, (goodsFrom b a n d f).length ≤ d := by
  induction d with
  | zero => intro f; simp [goodsFrom]
  | succ d ih =>
    intro f
    have := ih (f + 1)
    unfold goodsFrom
    split
    · simp; omega
    · omega
def goodRes (e n : Int) : List Int × Bool :=
  if House e n then (goodsFrom (reach (fewT e.toNat n - 1) (e.toNat - 1)) (reach (fewT e.toNat n - 1) e.toNat) n n.toNat 1, true) else ([], false)
/-- What the goods from f on are, a step further. -/
theorem goods_yes {b a n : Int} {d : Nat} {f : Int} {x L : List Int} (h : f - 1 ≤ b ∧ n - f ≤ a) (hL : x ++ goodsFrom b a n (d + 1) f = L) : (x ++ [f]) ++ goodsFrom b a n d (f + 1) = L := by
  rw [goodsFrom, if_pos h] at hL
  rw [List.append_assoc]; exact hL
theorem goods_no {b a n : Int} {d : Nat} {f : Int} {x L : List Int} (h : ¬ (f - 1 ≤ b ∧ n - f ≤ a)) (hL : x ++ goodsFrom b a n (d + 1) f = L) : x ++ goodsFrom b a n d (f + 1) = L := by
  rw [goodsFrom, if_neg h] at hL; exact hL

set_option maxHeartbeats 1000000 in
theorem GoodFloors_calls (e n : Int) (w : World) :
    Calls Try.prog 33 #[.int .i64 e, .int .i64 n] w fun r w' => ∃ v : Value, r = .returned (.tuple #[v, .bool (goodRes e n).2]) ∧ Kd.R (Kd.int .i64) 3 w' w.heap.size (fun _ => True) v (goodRes e n).1 ∧ Below w.heap.size w w' := by
  by_cases h : House e n
  · obtain ⟨e, rfl⟩ := Int.eq_ofNat_of_zero_le (show 0 ≤ e by have := h.1; omega)
    obtain ⟨n, rfl⟩ := Int.eq_ofNat_of_zero_le (show 0 ≤ n from h.2.1)
    obtain ⟨L, hL⟩ : ∃ L, L = goodsFrom (reach (fewT e n - 1) (e - 1)) (reach (fewT e n - 1) e) n n 1 := ⟨_, rfl⟩
    have HF : Hid (goodRes (e : Int) (n : Int) = (L, true)) := Lib.hid (by unfold goodRes; rw [if_pos h, Int.toNat_natCast, Int.toNat_natCast, hL])
    have HL := Lib.hid hL
    have HH := Lib.hid h
    have HS := Lib.hid (fewT_spec e (by have := h.1; omega) n h.2.2)
    have he : e ≤ 10 := by have := h.1; omega
    have he1 : 1 ≤ e := by have := h.1; omega
    have hn : n ≤ 1000 := by have := h.2.2; omega
    have HP : Hid (1 ≤ n → 1 ≤ fewT e n) := Lib.hid (fun h0 => HS.out.2.pos (by omega))
    clear h hL
    generalize hT : fewT e n = T at *
    clear hT
    go_enter Try.func33, Try.ntmps33
    go_wp2_with (first | (go_at_call 58; refine (isHouse_yes _ _ _ HH.out).mono ?_; rintro r w' ⟨rfl, rfl⟩) | (go_at_call 50; refine (newReaches_calls _).mono ?_; rintro r w1 ⟨rfl, hT, hs, hb⟩; have HT := Lib.hid hT; have HB := Lib.hid hb; clear hT hb) | ((with_reducible refine gate_dst (N := 15) rfl ?_); refine Kd.R_lit (Kd.int .i64) _ 3 ?hg (N := 15) ?hd (xs := ([] : List Int)) (inner := []) (ok := fun _ => True) (okp := fun _ => True) ?hr ?hp (fun _ hk => hk) trivial (Below.refl _ _) (Nat.le_refl _) (by simp) ?_; (case hd => rfl); (case hg => rfl); (case hr => first | (go_simp; done) | (go_simp; rfl)); (case hp => exact (Reps.none _ _)); intro v2 w2 ho hb2 hg_ hnew_; clear hg_ hnew_; have HO := Lib.hid ho; have HB2 := Lib.hid hb2; clear ho hb2) | (go_at_call 59; refine (fewest_calls _ e n _ _ (HT.out.below HB2.out hs) he HS.out.1 HS.out.2).mono ?_; rintro r w' ⟨rfl, rfl⟩))
    go_loopw [7, 9] (fun v7 v9 wr => ∃ (x : List Int) (f : Nat), 1 ≤ f ∧ f ≤ n + 1 ∧ v9 = .int .i64 f ∧ Hid (x ++ goodsFrom (reach (T - 1) (e - 1)) (reach (T - 1) e) n (n + 1 - f) f = L) ∧ Hid (x.length + (n + 1 - f) ≤ 1001) ∧ Hid (Kd.R (Kd.int .i64) 3 wr w1.heap.size (fun _ => True) v7 x) ∧ Hid (Below w1.heap.size w1 wr)) (fun _ v9 _ => (n + 1) - (intOf v9).toNat)
    case atStart => exact ⟨[], 1, by omega, by omega, rfl, Lib.hid HL.out.symm, Lib.hid (by simp; omega), HO, HB2⟩
    case round =>
      clear HO HB2
      obtain ⟨x, f, h1, h2, rfl, HX, HLen, HO, HB2⟩ := hrel
      by_cases hf : f ≤ n
      · have HX2 : Hid (x ++ goodsFrom (reach (T - 1) (e - 1)) (reach (T - 1) e) n ((n - f) + 1) f = L) := Lib.hid (by have := HX.out; rw [show n + 1 - f = (n - f) + 1 by omega] at this; exact this)
        have HT1 : Hid (1 ≤ T) := Lib.hid (HP.out (by omega))
        by_cases hg : (f : Int) - 1 ≤ reach (T - 1) (e - 1) ∧ (n : Int) - f ≤ reach (T - 1) e
        · have HX3 := Lib.hid (goods_yes hg HX2.out)
          have HR : Hid (true = decide ((f : Int) - 1 ≤ reach (T - 1) (e - 1) ∧ (n : Int) - f ≤ reach (T - 1) e)) := Lib.hid (decide_eq_true hg).symm
          have HRoom : Hid (x.length < 17592186044416) := Lib.hid (by have := HLen.out; omega)
          have HLen2 : Hid ((x ++ [(f : Int)]).length + (n + 1 - (f + 1)) ≤ 1001) := Lib.hid (by have := HLen.out; simp; omega)
          clear hg HX HX2
          obtain ⟨y, hy⟩ : ∃ y : List Int, y = x ++ [(f : Int)] := ⟨_, rfl⟩
          rw [← hy] at HX3 HLen2
          have HY := Lib.hid hy
          clear hy
          go_wp2_with (first | (go_at_call 63; refine (isFirst_calls _ T e n f _ (HT.out.below HB2.out hs) he1 he HT1.out HS.out.1 (by omega) (by omega) (by omega) (by omega) true HR.out).mono ?_; rintro r w' ⟨rfl, rfl⟩) | ((with_reducible refine gate_builtin (b := .append) (xs := #[.tmp 31, .tmp 33]) rfl ?_); at_builtin; refine Kd.R_append (Kd.int .i64) (w0 := w1) w1.heap.size rfl (.tmp 31) (.tmp 33) 27 3 (.int .i64 0) 8 rfl Try.underlying27 info3 rfl (by decide) (by omega) u7 x (f : Int) [.int .i64 f] (fun _ => True) (fun _ => False) rfl rfl ?aP (fun _ hk => hk.elim) ?aF ?aO ?aB ?aS ?aL ?_; (case aP => exact rfl); (case aB => exact (by repeat (first | (with_reducible first | exact HB2.out | apply below_alloc | apply pw_below_drewN | apply below_drew1) | exact HB2.out))); (case aF => exact (fun _ _ => trivial)); (case aO => exact (by (with_reducible repeat (first | apply Kd.R_alloc | apply Kd.R_drewN | apply Kd.R_drew)); exact HO.out)); (case aS => exact (below_size (by repeat (first | (with_reducible first | exact HB2.out | apply below_alloc | apply pw_below_drewN | apply below_drew1) | exact HB2.out)))); (case aL => have := HRoom.out; omega); intro v5 w5 ho hb hg hat; rw [← HY.out] at ho; have n0_ := Lib.hid hb; have n1_ := Lib.hid ho; clear HB2; clear HO; have HB2 := n0_; have HO := n1_; clear n0_ n1_; clear ho hb hg hat))
          go_roundw
          case rel => exact ⟨y, f + 1, by omega, by omega, by go_num, Lib.hid (by have := HX3.out; rw [show n + 1 - (f + 1) = n - f by omega]; exact this), HLen2, HO, HB2⟩
          case measure => simp [intOf]; omega
        · have HX3 := Lib.hid (goods_no hg HX2.out)
          have HR : Hid (false = decide ((f : Int) - 1 ≤ reach (T - 1) (e - 1) ∧ (n : Int) - f ≤ reach (T - 1) e)) := Lib.hid (decide_eq_false hg).symm
          have HLen2 : Hid (x.length + (n + 1 - (f + 1)) ≤ 1001) := Lib.hid (by have := HLen.out; omega)
          clear hg HX HX2
          go_wp2_with (first | (go_at_call 63; refine (isFirst_calls _ T e n f _ (HT.out.below HB2.out hs) he1 he HT1.out HS.out.1 (by omega) (by omega) (by omega) (by omega) false HR.out).mono ?_; rintro r w' ⟨rfl, rfl⟩))
          go_roundw
          case rel => exact ⟨x, f + 1, by omega, by omega, by go_num, Lib.hid (by have := HX3.out; rw [show n + 1 - (f + 1) = n - f by omega]; exact this), HLen2, HO, HB2⟩
          case measure => simp [intOf]; omega
      · obtain rfl : f = n + 1 := by omega
        have HX3 : Hid (x = L) := Lib.hid (by have := HX.out; rw [show n + 1 - (n + 1) = 0 by omega, goodsFrom, List.append_nil] at this; exact this)
        clear HX
        go_wp2_with fail
        go_ret2
        exact ⟨_, by rw [HF.out]; rfl, by rw [HF.out, ← HX3.out]; exact Kd.R_lower HO.out HB.out.size, HB.out.trans (HB2.out.mono HB.out.size)⟩
  · have HF : Hid (goodRes e n = ([], false)) := Lib.hid (by unfold goodRes; rw [if_neg h])
    have HH := Lib.hid h
    clear h
    go_enter Try.func33, Try.ntmps33
    go_wp2_with (first | (go_at_call 58; refine (isHouse_no _ _ _ HH.out).mono ?_; rintro r w' ⟨rfl, rfl⟩))
    go_ret2
    exact ⟨_, by rw [HF.out]; rfl, by rw [HF.out]; exact Kd.R_nil _ _ _ _ _, Below.refl _ _⟩
end Go.Proofs.Ytnbimnnocnhggaa.Hand
