/- A text written by a program of this session for the law FnExactLeastSumMarks: what each Go function that it reaches computes, and the proof that it does; no conditions beyond those stated. -/
import Derived.Test.YtgjeoeafpdiifaaQFnExactLeastSumMarksx0
import Derived.Test.YtgjeoeafpdiifaaQFnExactLeastSumMarksx2
namespace Go.Proofs.Ytgjeoeafpdiifaa.QFnExactLeastSumMarks
open Go.RowKit Go.Proofs.YtgjeoeafpdiifaaW.PrintWords Go.Proofs.YtgjeoeafpdiifaaW.PrintLast Go.Proofs.YtgjeoeafpdiifaaW.PrintMore
attribute [local go_sem] max2_int min2_int max_two min_two max_three min_three max_four min_four   -- for this text's walks alone
set_option linter.unusedVariables false
set_option linter.unusedSimpArgs false

/-! ### impl_LeastSumMarks: function 5 -/
/-- What a visit makes of the best so far. -/
def lsStep (k : Nat) (a : Int) (st : List Int × Int) (x : List Int) : Option (List Int × Int) := (impl_marked.f k a x).bind fun t => if t.2 < st.2 then some (x, t.2) else some st
def lsFold (k : Nat) (a : Int) : List Int × Int → List (List Int) → Option (List Int × Int)
  | st, [] => some st
  | st, x :: r => (lsStep k a st x).bind fun s => lsFold k a s r
theorem lsFold_app (k : Nat) (a : Int) (xs ys : List (List Int)) : ∀ st, lsFold k a st (xs ++ ys) = (lsFold k a st xs).bind fun s => lsFold k a s ys := by
  induction xs with
  | nil => intro st; rfl
  | cons x r ih =>
    intro st
    show (lsStep k a st x).bind _ = ((lsStep k a st x).bind _).bind _
    rw [Option.bind_assoc]
    congr 1
    funext s
    exact ih s
/-- The marks behind a beginning, its next mark m or more; d floors are left. -/
def restM : Nat → List Int → Int → List (List Int)
  | 0, _, _ => []
  | d + 1, b, m => (b ++ [m]) :: (restM d (b ++ [m]) (m + 1) ++ restM d b (m + 1))
def RowAt (W : World) (B5 B6 : Nat) (v : Value) (l : List Int) : Prop := W.ownsRow 0 3 1 v l.length (nums .i64 l) ∧ ∀ k, v.ownBlock = some k → k ≠ B5 ∧ k ≠ B6
theorem RowAt.kept {W W' : World} {B5 B6 : Nat} {v : Value} {l : List Int} (h : RowAt W B5 B6 v l) (hk : Kept W W' fun k => k = B5 ∨ k = B6) : RowAt W' B5 B6 v l := by
  refine ⟨own_move h.1 fun k hv => ?_, h.2⟩
  have h2 := h.2 k hv
  refine hk.2 k ?_ (fun e => by rcases e with e | e; exact h2.1 e; exact h2.2 e)
  rcases h.1.2 with ⟨rfl, _⟩ | ⟨g, cap, cur, rfl, _, hg, _⟩
  · simp [Value.ownBlock] at hv
  · simp [Value.ownBlock] at hv
    subst hv
    exact blk_lt hg
theorem RowAt.reads {W : World} {B5 B6 : Nat} {v : Value} {l : List Int} (h : RowAt W B5 B6 v l) : ∃ A c, v = .slice A l.length c ∧ l.length ≤ c ∧ Kd.C (Kd.int .i64) W A l.length l :=
  Kd.R_reads (Kd.R_of_own (enc := Value.int .i64) (h1 := fun _ => rfl) h.1 (fun _ _ => trivial) : Kd.R (Kd.int .i64) 3 W 0 (fun _ => True) v l)
/-- The captured cells, and the best so far. -/
structure LS (W : World) (B0 B5 B6 : Nat) (a : Int) (vb : Value) (st : List Int × Int) : Prop where
  b0 : W.heap[B0]? = some (.cells #[.int .i64 a] 3 (0, 0))
  b5 : W.heap[B5]? = some (.cells #[vb] 22 (0, 0))
  b6 : W.heap[B6]? = some (.cells #[.int .i64 st.2] 3 (0, 0))
  n : B0 ≠ B6
  row : RowAt W B5 B6 vb st.1
theorem LS.below {W W' : World} {B0 B5 B6 : Nat} {a : Int} {vb : Value} {st : List Int × Int} (h : LS W B0 B5 B6 a vb st) (hb : Below W.heap.size W W') : LS W' B0 B5 B6 a vb st :=
  ⟨(hb.block _ (blk_lt h.b0)).trans h.b0, (hb.block _ (blk_lt h.b5)).trans h.b5, (hb.block _ (blk_lt h.b6)).trans h.b6, h.n, h.row.kept (Kept.of_below hb _)⟩
theorem LS.c0 {W : World} {B0 B5 B6 : Nat} {a : Int} {vb : Value} {st : List Int × Int} (h : LS W B0 B5 B6 a vb st) : W.cell? ⟨B0, 0, none⟩ = some (.int .i64 a) := by rw [blk_cell h.b0]; rfl
theorem LS.c5 {W : World} {B0 B5 B6 : Nat} {a : Int} {vb : Value} {st : List Int × Int} (h : LS W B0 B5 B6 a vb st) : W.cell? ⟨B5, 0, none⟩ = some vb := by rw [blk_cell h.b5]; rfl
theorem LS.c6 {W : World} {B0 B5 B6 : Nat} {a : Int} {vb : Value} {st : List Int × Int} (h : LS W B0 B5 B6 a vb st) : W.cell? ⟨B6, 0, none⟩ = some (.int .i64 st.2) := by rw [blk_cell h.b6]; rfl
theorem LS.n56 {W : World} {B0 B5 B6 : Nat} {a : Int} {vb : Value} {st : List Int × Int} (h : LS W B0 B5 B6 a vb st) : B5 ≠ B6 := blk_ne h.b5 h.b6 (by decide)
theorem LS.n05 {W : World} {B0 B5 B6 : Nat} {a : Int} {vb : Value} {st : List Int × Int} (h : LS W B0 B5 B6 a vb st) : B0 ≠ B5 := blk_ne h.b0 h.b5 (by decide)
/-- The best is put in place. -/
theorem LS.put {W : World} {B0 B5 B6 : Nat} {a : Int} {vb : Value} {st : List Int × Int} (h : LS W B0 B5 B6 a vb st) {v : Value} {l : List Int} (hr : RowAt W B5 B6 v l) (n : Int) :
    LS ((W.setCell ⟨B5, 0, none⟩ v).setCell ⟨B6, 0, none⟩ (.int .i64 n)) B0 B5 B6 a v (l, n) := by
  refine ⟨blk_far (blk_far h.b0 h.n05 _) h.n _, ?_, ?_, h.n, ?_, hr.2⟩
  · exact blk_far (p := ⟨B6, 0, none⟩) (blk_set h.b5 0 v) h.n56 _
  · exact blk_set (blk_far (p := ⟨B5, 0, none⟩) h.b6 (fun e => h.n56 e.symm) v) 0 _
  · exact own_setCell (own_setCell hr.1 (fun e => (hr.2 _ e.symm).1 rfl) _) (fun e => (hr.2 _ e.symm).2 rfl) _
set_option maxHeartbeats 1000000 in
set_option maxRecDepth 100000 in
theorem visit_calls (k : Nat) (a : Int) (B0 B5 B6 base0 : Nat) (l : List Int) (st st' : List Int × Int) (v vb : Value) (W : World) (hL : LS W B0 B5 B6 a vb st) (hR : RowAt W B5 B6 v l) (hs : lsStep k a st l = some st') (hb5 : base0 ≤ B5) (hb6 : base0 ≤ B6) :
    Calls Try.prog 14 #[v, .pointer (some ⟨B0, 0, none⟩), .pointer (some ⟨B6, 0, none⟩), .pointer (some ⟨B5, 0, none⟩)] W fun e w' => e = .returned (.tuple #[]) ∧ ∃ vb', LS w' B0 B5 B6 a vb' st' ∧ Kept W w' (fun k => k = B5 ∨ k = B6) ∧ Below base0 W w' := by
  obtain ⟨⟨t1, t2⟩, h1, h2⟩ := Option.bind_eq_some_iff.1 hs
  obtain ⟨A, c, rfl, hc, hC⟩ := hR.reads
  have hcon := Lib.hid (impl_marked.calls k a A c l t1 t2 W hC hc h1)
  have hsz : base0 ≤ W.heap.size := by have := blk_lt hL.b5; omega
  have HL := Lib.hid hL
  have HR := Lib.hid hR
  have hc0 := hL.c0
  have h2' : (if t2 < st.2 then some (l, t2) else some st) = some st' := h2
  clear hs h1 h2 hC hL hR
  by_cases hlt : t2 < st.2
  · rw [if_pos hlt] at h2'
    obtain rfl := Option.some.inj h2'
    go_enter Try.func14, Try.ntmps14
    go_wp2_with (go_at_call 15; refine hcon.out.mono ?_; rintro e w1 ⟨rfl, hb⟩; have HL1 := Lib.hid (HL.out.below hb); have HR1 := Lib.hid (HR.out.kept (Kept.of_below hb _)); have c5 := HL1.out.c5; have c6 := HL1.out.c6; have f5 := blk_frozen HL1.out.b5 0; have f6 := blk_frozen HL1.out.b6 0; have n56 := HL1.out.n56; have HB := Lib.hid hb; clear hb)
    go_end0
    refine ⟨rfl, _, HL1.out.put HR1.out t2, ?_, ?_⟩
    · exact ((Kept.of_below HB.out _).setCell (.inl (.inl rfl)) _).setCell (.inl (.inr rfl)) _
    · exact ((HB.out.mono hsz).setCell hb5 _).setCell hb6 _
  · rw [if_neg hlt] at h2'
    obtain rfl := Option.some.inj h2'
    go_enter Try.func14, Try.ntmps14
    go_wp2_with (go_at_call 15; refine hcon.out.mono ?_; rintro e w1 ⟨rfl, hb⟩; have HL1 := Lib.hid (HL.out.below hb); have HR1 := Lib.hid (HR.out.kept (Kept.of_below hb _)); have c5 := HL1.out.c5; have c6 := HL1.out.c6; have f5 := blk_frozen HL1.out.b5 0; have f6 := blk_frozen HL1.out.b6 0; have n56 := HL1.out.n56; have HB := Lib.hid hb; clear hb)
    go_end0
    refine ⟨rfl, _, HL1.out, ?_, ?_⟩
    · exact Kept.of_below HB.out _
    · exact HB.out.mono hsz
theorem RowAt.C {W : World} {B5 B6 : Nat} {A : Option Addr} {n c : Nat} {l : List Int} (h : RowAt W B5 B6 (.slice A n c) l) : Kd.C (Kd.int .i64) W A l.length l := by
  obtain ⟨A2, c2, e, _, hC⟩ := h.reads
  injection e with e1 e2 e3
  subst e1
  exact hC
theorem LS.kept {W W' : World} {B0 B5 B6 : Nat} {a : Int} {vb : Value} {st : List Int × Int} (h : LS W B0 B5 B6 a vb st) (hk : Kept W W' fun _ => False) : LS W' B0 B5 B6 a vb st :=
  ⟨blk_kept h.b0 hk id, blk_kept h.b5 hk id, blk_kept h.b6 hk id, h.n, h.row.kept (hk.mono fun _ h => h.elim)⟩
theorem cell_last {W w1 : World} {B5 B6 : Nat} {ad : Addr} {n c : Nat} {l : List Int} {j : Int} {x : Int} (h : RowAt W B5 B6 (.slice (some ad) n c) l) (h0 : 0 ≤ j) (h1 : j < (l.length : Int)) (hx : W.cell? (ad.add j.toNat) = some (.int .i64 x)) (hk : Kept W w1 fun k => k = B5 ∨ k = B6) : w1.cell? (ad.add j.toNat) = some (.int .i64 x) := by
  obtain ⟨ad2, e, h2⟩ := Kd.at_int (h.kept hk).C j h0 h1
  obtain rfl := Option.some.inj e
  obtain ⟨ad3, e3, h3⟩ := Kd.at_int h.C j h0 h1
  obtain rfl := Option.some.inj e3
  rw [h3] at hx
  rw [h2]
  exact hx
theorem lsFold_split {k : Nat} {a i : Int} {l : List Int} {s f : List Int × Int} (h : lsFold k a s (restM (a + 1 - i).toNat l i) = some f) (hle : i ≤ a) : ∃ s2, lsFold k a s ((l ++ [i]) :: restM (a - i).toNat (l ++ [i]) (i + 1)) = some s2 ∧ lsFold k a s2 (restM (a - i).toNat l (i + 1)) = some f := by
  rw [show (a + 1 - i).toNat = (a - i).toNat + 1 by omega] at h
  have h2 : lsFold k a s (((l ++ [i]) :: restM (a - i).toNat (l ++ [i]) (i + 1)) ++ restM (a - i).toNat l (i + 1)) = some f := h
  rw [lsFold_app] at h2
  exact Option.bind_eq_some_iff.1 h2
theorem RowAt.none_ {W : World} {B5 B6 : Nat} {A : Option Addr} {n c : Nat} {l : List Int} (h : RowAt W B5 B6 (.slice A n c) l) : A = none → l.length = 0 ∧ l.length = 0 := by
  rintro rfl
  rcases h.1.2 with ⟨_, h2⟩ | ⟨g, cap, cur, e, _⟩
  · exact ⟨h2, h2⟩
  · injection e with e1
    cases e1
theorem RowAt.cells_ {W : World} {B5 B6 : Nat} {A : Option Addr} {n c : Nat} {l : List Int} (h : RowAt W B5 B6 (.slice A n c) l) : ∀ b, A = some b → ∀ j u, (nums .i64 l)[j]? = some u → W.cell? (b.add j) = some u := by
  rintro b rfl j u hu
  obtain ⟨hj, rfl⟩ := List.getElem?_eq_some_iff.1 hu
  rw [nums_length] at hj
  obtain ⟨ad, e, h2⟩ := Kd.at_int h.C (j : Int) (by omega) (by omega)
  obtain rfl := Option.some.inj e
  rw [Int.toNat_natCast] at h2
  rw [h2]
  unfold rd
  rw [List.getD_eq_getElem?_getD, Int.toNat_natCast, List.getElem?_eq_getElem hj]
  exact congrArg some (List.getElem_map (l := l) (fun x => Value.int IntKind.i64 x)).symm
theorem RowAt.new {w' : World} {B5 B6 N : Nat} {v : Value} {l : List Int} {i : Int} (h5 : B5 < N) (h6 : B6 < N) (h : w'.ownsRow N 3 1 v (l.length + 1) (nums .i64 l ++ [.int .i64 i])) : RowAt w' B5 B6 v (l ++ [i]) := by
  refine ⟨?_, fun k hk => ?_⟩
  · rw [List.length_append, List.length_singleton, nums_append]
    refine ⟨h.1, ?_⟩
    rcases h.2 with h2 | ⟨g, cap, cur, e1, hb1, hr⟩
    · exact .inl h2
    · exact .inr ⟨g, cap, cur, e1, Nat.zero_le _, hr⟩
  · rcases h.2 with ⟨rfl, h2⟩ | ⟨g, cap, cur, rfl, hb, _⟩
    · omega
    · simp [Value.ownBlock] at hk
      omega
theorem cut_full (A : Option Addr) (n c : Nat) (hc : n ≤ c) : ∀ W : World, (Instr.slice 22 (.slice A n c) none (some (.int .i64 (n : Int))) (some (.int .i64 (n : Int)))).run Try.prog W = .ok (.slice A n n) W := by
  intro W
  obtain ⟨i0, hi0, _, _, _⟩ := info_parts info3
  have hel : Try.prog.elem 22 = 3 := by simp [Program.elem, Try.underlying22]
  have hu : Try.prog.underlying 22 = some (.slice (Try.prog.elem 22)) := by rw [hel]; exact Try.underlying22
  have ha : (A.map fun x => x.add 0) = A := by cases A <;> simp [Addr.add]
  rw [run_slice_hm W 22 A n c hu .i64 .i64 (n : Int) (n : Int) (by omega) (by omega) (by omega), hel]
  simp [sizeOf, typeInfo, hi0, sliced, Result.andThen, ha]
theorem wrapI {x : Int} (h0 : -9223372036854775808 ≤ x) (h1 : x < 9223372036854775808) : wrap64 x = x := by unfold wrap64; omega
set_option maxHeartbeats 4000000 in
set_option maxRecDepth 100000 in
theorem markings_calls (k : Nat) (a : Int) (ha0 : 0 ≤ a) (ha : a ≤ 14) (B0 B5 B6 base0 : Nat) (hb5 : base0 ≤ B5) (hb6 : base0 ≤ B6) (d : Nat) : ∀ (l : List Int) (m : Int) (hm : 1 ≤ m) (hd : (d : Int) = a + 1 - m) (hlast : (l = [] ∧ m = 1) ∨ (l ≠ [] ∧ rd l ((l.length : Int) - 1) + 1 = m)) (hlen : l.length + d ≤ 100)
    (W : World) (v vb : Value) (st fin : List Int × Int) (hL : LS W B0 B5 B6 a vb st) (hR : RowAt W B5 B6 v l) (hf : lsFold k a st (l :: restM d l m) = some fin),
    Calls Try.prog 13 #[.int .i64 a, v, .func (.func 14) #[] #[.pointer (some ⟨B0, 0, none⟩), .pointer (some ⟨B6, 0, none⟩), .pointer (some ⟨B5, 0, none⟩)]] W fun e w' => e = .returned (.tuple #[]) ∧ ∃ vb', LS w' B0 B5 B6 a vb' fin ∧ Kept W w' (fun k => k = B5 ∨ k = B6) ∧ Below base0 W w' := by
  induction d using Nat.strongRecOn with
  | _ d ih =>
  intro l m hm hd hlast hlen W v vb st fin hL hR hf
  obtain ⟨st1, hs1, hf1⟩ := Option.bind_eq_some_iff.1 hf
  have HV := Lib.hid (visit_calls k a B0 B5 B6 base0 l st st1 v vb W hL hR hs1 hb5 hb6)
  have eg : ∀ args w, (callFunc 14 args).run Try.prog w = .ok (.enter 14 args) w := enters_of Try.func14 (by kernel_rfl) rfl
  obtain ⟨i0, hi, hz0, hz1, hz2⟩ := info_parts info3
  obtain ⟨A, c, rfl, hc, _⟩ := hR.reads
  have HI := Lib.hid (fun (i : Int) (h1 : m ≤ i) (h2 : i ≤ a) (W1 : World) (v1 vb1 : Value) (s1 f1 : List Int × Int) (q1 : LS W1 B0 B5 B6 a vb1 s1) (q2 : RowAt W1 B5 B6 v1 (l ++ [i])) (q3 : lsFold k a s1 ((l ++ [i]) :: restM (a - i).toNat (l ++ [i]) (i + 1)) = some f1) =>
    ih (a - i).toNat (by omega) (l ++ [i]) (i + 1) (by omega) (by omega) (.inr ⟨by simp, by
      rw [List.length_append, List.length_singleton]
      unfold rd
      rw [show (((l.length + 1 : Nat) : Int) - 1).toNat = l.length by omega]
      simp⟩) (by rw [List.length_append, List.length_singleton]; omega) W1 v1 vb1 s1 f1 q1 q2 q3)
  have hcut := cut_full A l.length c hc
  have hll : l.length ≤ 100 := by omega
  have HR := Lib.hid hR
  have HF := Lib.hid hf1
  have hml : m ≤ a + 1 := by omega
  have hdn : (a + 1 - m).toNat = d := by omega
  have HD := Lib.hid hdn
  have HM := Lib.hid (And.intro hm hml)
  have HA := Lib.hid (And.intro ha0 ha)
  have HBB := Lib.hid (And.intro hb5 hb6)
  clear ih hf hf1 hs1 hL hR hd hdn
  have HNil : (l = [] ∧ m = 1) → decide (0 < (l.length : Int)) = false ∧ decide (0 < l.length) = false := fun h => ⟨decide_eq_false (by rw [h.1]; simp), decide_eq_false (by rw [h.1]; simp)⟩
  rcases hlast with hcase | hcase
  · obtain ⟨cb0, cb1⟩ := HNil hcase
    obtain rfl := hcase.2
    clear hcase HNil
    go_enter Try.func13, Try.ntmps13
    go_wp2_with (go_at_fn 14; refine HV.out.mono ?_; rintro e w1 ⟨rfl, vb1, hL1, hK1, hB1⟩; have HL1 := Lib.hid hL1; have HK1 := Lib.hid hK1; have HB1 := Lib.hid hB1; clear hL1 hK1 hB1)
    go_loopg [7] d (fun gg s7 wr => ∃ (i : Int) (vbi : Value) (sti : List Int × Int), 1 ≤ i ∧ i ≤ a + 1 ∧ (a + 1 - i).toNat ≤ gg ∧ s7 = .int .i64 i ∧ Hid (LS wr B0 B5 B6 a vbi sti) ∧ Hid (lsFold k a sti (restM (a + 1 - i).toNat l i) = some fin) ∧ Hid (Kept W wr fun k => k = B5 ∨ k = B6) ∧ Hid (Below base0 W wr))
    case atStart => exact ⟨1, vb1, st1, by omega, HM.out.2, by have := HD.out; omega, rfl, HL1, by rw [HD.out]; exact HF, HK1, HB1⟩
    case round =>
      obtain ⟨i, vbi, sti, hi1, hi2, hg, rfl, HLi, HFi, HKi, HBi⟩ := hrel
      by_cases hle : i ≤ a
      · have cl1 : decide (i ≤ a) = true := decide_eq_true hle
        obtain ⟨st2, he1, he2⟩ := lsFold_split HFi.out hle
        have HE1 := Lib.hid he1
        have HE2 := Lib.hid he2
        have HX := Lib.hid (HI.out i hi1 hle)
        have HRi := Lib.hid (HR.out.kept HKi.out)
        have hwi : wrap64 (i + 1) = i + 1 := wrapI (by have := HA.out; omega) (by have := HA.out; omega)
        have HNo := Lib.hid HR.out.none_
        have hb5l := blk_lt HLi.out.b5
        have hb6l := blk_lt HLi.out.b6
        have HBL := Lib.hid (And.intro hb5l hb6l)
        have HHi := Lib.hid (And.intro hi1 hle)
        have HG := Lib.hid hg
        clear he1 he2 hb5l hb6l hi1 hi2 hle hg
        go_wp2_with (first | ((with_reducible refine gate_builtin (b := .append) (xs := #[.tmp 33, .tmp 35]) rfl ?_); at_builtin; refine wpList_append_grows _ rfl (.tmp 33) (.tmp 35) 22 rfl 3 i0 (.int .i64 0) 1 8 Try.underlying22 hi hz0 hz1 hz2 rfl (by decide) A l.length l.length (nums .i64 l) rfl HNo.out (by rw [nums_length, Nat.mul_one]) (HRi.out.kept (Kept.of_below (below_alloc (Below.refl _ _) _) _)).cells_ ⟨wr.heap.size, 0, none⟩ 1 1 [.int .i64 i] rfl rfl ?c1 ?c2 (Nat.lt_succ_self _) (by unfold maxLen; omega) (by omega) ?grow; (case c1 => intro j u hj; match j, hj with | 0, hj => simp at hj; subst hj; simp [Addr.add]); (case c2 => intro u hu; simp at hu; subst hu; rfl); intro v' w2 hown hgrow; have HN2 := Lib.hid (RowAt.new (B5 := B5) (B6 := B6) (by have := HBL.out; simp; omega) (by have := HBL.out; simp; omega) hown); have hbel := ((Below.refl wr.heap.size wr).alloc (Nat.le_refl _) _).grown hgrow (by simp) (fun k h => by cases h); have HB2 := Lib.hid hbel; have HL2 := Lib.hid (HLi.out.below hbel); clear hown hgrow hbel) | (go_at_call 13; refine (HX.out _ _ vbi sti st2 HL2.out HN2.out HE1.out).mono ?_; rintro e w3 ⟨rfl, vb3, hL3, hK3, hB3⟩; have HL3 := Lib.hid hL3; have HK3 := Lib.hid ((HKi.out.below HB2.out).then_ hK3 fun k h => .inl h); have HB3 := Lib.hid ((HBi.out.trans (HB2.out.mono (by have := HBB.out; have := HBL.out; omega))).trans hB3); clear hL3 hK3 hB3))
        go_roundg ((a - i).toNat)
        case measure => have := HG.out; have := HHi.out; omega
        case rel => exact ⟨i + 1, vb3, st2, by have := HHi.out; omega, by have := HHi.out; omega, by omega, by first | rw [hwi] | go_num, HL3, by rw [show a + 1 - (i + 1) = a - i by omega]; exact HE2, HK3, HB3⟩
      · have cl0 : decide (i ≤ a) = false := decide_eq_false hle
        go_wp2
        go_end0
        have e0 : (a + 1 - i).toNat = 0 := by omega
        have h9 := HFi.out
        rw [e0] at h9
        obtain rfl := Option.some.inj h9
        first | exact ⟨rfl, vbi, HLi.out, HKi.out, HBi.out⟩ | exact ⟨rfl, ⟨vbi, HLi.out⟩, HKi.out, HBi.out⟩
  · have hji : wrap64 ((l.length : Int) - 1) = ((l.length : Int) - 1) := wrapI (by omega) (by omega)
    have hpos : 0 < l.length := List.length_pos_iff.2 hcase.1
    have hq : wrap64 (rd l ((l.length : Int) - 1) + 1) = m := by rw [hcase.2]; exact wrapI (by omega) (by have := HA.out; omega)
    have cb0 : decide (0 < (l.length : Int)) = true := decide_eq_true (by omega)
    have cb1 : decide (0 < l.length) = true := decide_eq_true hpos
    have p0 : 0 ≤ (l.length : Int) - 1 := by omega
    have q0 : (l.length : Int) - 1 < (l.length : Int) := by omega
    have HJ := Lib.hid (And.intro p0 q0)
    obtain ⟨ad, ead, hx⟩ := Kd.at_int HR.out.C _ p0 q0
    subst ead
    have pb1 : (1 ≤ (l.length : Int)) = True := eq_true (by omega)
    have pb2 : ((l.length : Int) - 1 < (l.length : Int)) = True := eq_true q0
    have HT := Lib.hid (show ((l.length : Int) - 1).toNat = l.length - 1 by omega)
    generalize rd l ((l.length : Int) - 1) = last at *
    clear hcase HNil hpos p0 q0
    go_enter Try.func13, Try.ntmps13
    have hcl := fun (w1 : World) (hK : Kept W w1 fun k => k = B5 ∨ k = B6) => (cell_last HR.out HJ.out.1 HJ.out.2 hx hK : w1.cell? (ad.add ((l.length : Int) - 1).toNat) = some (.int .i64 last))
    rw [HT.out] at hcl
    have HCL := Lib.hid hcl
    have HQ := Lib.hid hq
    clear hcl hx HT HJ hq
    go_wp2_with (go_at_fn 14; refine HV.out.mono ?_; rintro e w1 ⟨rfl, vb1, hL1, hK1, hB1⟩; have hx1 := HCL.out w1 hK1; have HL1 := Lib.hid hL1; have HK1 := Lib.hid hK1; have HB1 := Lib.hid hB1; clear hL1 hK1 hB1)
    go_loopg [7] d (fun gg s7 wr => ∃ (i : Int) (vbi : Value) (sti : List Int × Int), m ≤ i ∧ i ≤ a + 1 ∧ (a + 1 - i).toNat ≤ gg ∧ s7 = .int .i64 i ∧ Hid (LS wr B0 B5 B6 a vbi sti) ∧ Hid (lsFold k a sti (restM (a + 1 - i).toNat l i) = some fin) ∧ Hid (Kept W wr fun k => k = B5 ∨ k = B6) ∧ Hid (Below base0 W wr))
    case atStart => exact ⟨m, vb1, st1, by omega, HM.out.2, by have := HD.out; omega, by rw [HQ.out], HL1, by rw [HD.out]; exact HF, HK1, HB1⟩
    case round =>
      obtain ⟨i, vbi, sti, hi1, hi2, hg, rfl, HLi, HFi, HKi, HBi⟩ := hrel
      by_cases hle : i ≤ a
      · have cl1 : decide (i ≤ a) = true := decide_eq_true hle
        obtain ⟨st2, he1, he2⟩ := lsFold_split HFi.out hle
        have HE1 := Lib.hid he1
        have HE2 := Lib.hid he2
        have HX := Lib.hid (HI.out i hi1 hle)
        have HRi := Lib.hid (HR.out.kept HKi.out)
        have hwi : wrap64 (i + 1) = i + 1 := wrapI (by have := HA.out; omega) (by have := HA.out; omega)
        have HNo := Lib.hid HR.out.none_
        have hb5l := blk_lt HLi.out.b5
        have hb6l := blk_lt HLi.out.b6
        have HBL := Lib.hid (And.intro hb5l hb6l)
        have HHi := Lib.hid (And.intro hi1 hle)
        have HG := Lib.hid hg
        clear he1 he2 hb5l hb6l hi1 hi2 hle hg
        go_wp2_with (first | ((with_reducible refine gate_builtin (b := .append) (xs := #[.tmp 33, .tmp 35]) rfl ?_); at_builtin; refine wpList_append_grows _ rfl (.tmp 33) (.tmp 35) 22 rfl 3 i0 (.int .i64 0) 1 8 Try.underlying22 hi hz0 hz1 hz2 rfl (by decide) (some ad) l.length l.length (nums .i64 l) rfl HNo.out (by rw [nums_length, Nat.mul_one]) (HRi.out.kept (Kept.of_below (below_alloc (Below.refl _ _) _) _)).cells_ ⟨wr.heap.size, 0, none⟩ 1 1 [.int .i64 i] rfl rfl ?c3 ?c4 (Nat.lt_succ_self _) (by unfold maxLen; omega) (by omega) ?grow2; (case c3 => intro j u hj; match j, hj with | 0, hj => simp at hj; subst hj; simp [Addr.add]); (case c4 => intro u hu; simp at hu; subst hu; rfl); intro v' w2 hown hgrow; have HN2 := Lib.hid (RowAt.new (B5 := B5) (B6 := B6) (by have := HBL.out; simp; omega) (by have := HBL.out; simp; omega) hown); have hbel := ((Below.refl wr.heap.size wr).alloc (Nat.le_refl _) _).grown hgrow (by simp) (fun k h => by cases h); have HB2 := Lib.hid hbel; have HL2 := Lib.hid (HLi.out.below hbel); clear hown hgrow hbel) | (go_at_call 13; refine (HX.out _ _ vbi sti st2 HL2.out HN2.out HE1.out).mono ?_; rintro e w3 ⟨rfl, vb3, hL3, hK3, hB3⟩; have HL3 := Lib.hid hL3; have HK3 := Lib.hid ((HKi.out.below HB2.out).then_ hK3 fun k h => .inl h); have HB3 := Lib.hid ((HBi.out.trans (HB2.out.mono (by have := HBB.out; have := HBL.out; omega))).trans hB3); clear hL3 hK3 hB3))
        go_roundg ((a - i).toNat)
        case measure => have := HG.out; have := HHi.out; omega
        case rel => exact ⟨i + 1, vb3, st2, by have := HHi.out; omega, by have := HHi.out; omega, by omega, by first | rw [hwi] | go_num, HL3, by rw [show a + 1 - (i + 1) = a - i by omega]; exact HE2, HK3, HB3⟩
      · have cl0 : decide (i ≤ a) = false := decide_eq_false hle
        go_wp2
        go_end0
        have e0 : (a + 1 - i).toNat = 0 := by omega
        have h9 := HFi.out
        rw [e0] at h9
        obtain rfl := Option.some.inj h9
        first | exact ⟨rfl, vbi, HLi.out, HKi.out, HBi.out⟩ | exact ⟨rfl, ⟨vbi, HLi.out⟩, HKi.out, HBi.out⟩
theorem lsStep_mono (k : Nat) (a : Int) (st : List Int × Int) (x : List Int) : LeO (lsStep k a st x) (lsStep (k + 1) a st x) := LeO.bind (impl_marked.mono _ _ _) (fun _ => LeO.refl _)
theorem lsFold_mono (k : Nat) (a : Int) (xs : List (List Int)) : ∀ st, LeO (lsFold k a st xs) (lsFold (k + 1) a st xs) := by
  induction xs with
  | nil => intro st; exact LeO.refl _
  | cons x r ih => intro st; exact LeO.bind (lsStep_mono k a st x) (fun s => ih s)
def impl_LeastSumMarks.f (k : Nat) (a0 : Int) : Option (List Int × Int × Bool) := if 0 ≤ a0 ∧ a0 ≤ 14 then (lsFold k a0 ([], 1125899906842624) ([] :: restM a0.toNat [] 1)).bind fun t => (if t.1.length ≤ 100 then (some (t.1, t.2, true)) else (none)) else (some (([] : List Int), 0, false))
theorem impl_LeastSumMarks.mono : ∀ a0 k, LeO (impl_LeastSumMarks.f k a0) (impl_LeastSumMarks.f (k + 1) a0) := by
  intro a0 k
  unfold impl_LeastSumMarks.f
  exact LeO.ite (LeO.bind (lsFold_mono _ _ _ _) (fun _ => LeO.refl _)) (LeO.refl _)
theorem clone_any {B5 B6 : Nat} (v : Value) (l : List Int) (W : World) (h : RowAt W B5 B6 v l) (hl : l.length ≤ 100) :
    Calls Try.prog 16 #[v] W fun e w' => ∃ v', e = .returned v' ∧ w'.ownsRow W.heap.size 3 1 v' l.length (nums .i64 l) ∧ Below W.heap.size W w' := by
  rcases h.1.2 with ⟨rfl, h0⟩ | ⟨g, cap, cur, rfl, hb, hg, hn, hm, hs, ht⟩
  · obtain rfl : l = [] := List.length_eq_zero_iff.1 h0
    have q22 : ∀ (w : World), (binOp .eql 22 (.slice none 0 0) (.slice none 0 0)).run Try.prog w = .ok (.bool true) w := fun w => Lib.run_eql_slice_nil w _ _ none 0 0 0 0 Try.underlying22
    go_enter Try.func16, Try.ntmps16
    go_wp2
    go_ret
    exact ⟨_, rfl, ⟨rfl, .inl ⟨rfl, rfl⟩⟩, Below.refl _ _⟩
  · have hcon := Try.slices_Clone_int g 0 l.length cap l W (Nat.le_refl _) (by omega) (fun j hj => by
      have h2 := h.cells_ ⟨g, 0, none⟩ rfl j (.int .i64 (l.getD j 0)) (by
        show (l.map fun x => Value.int .i64 x)[j]? = _
        rw [List.getElem?_map, List.getElem?_eq_getElem hj, List.getD_eq_getElem?_getD, List.getElem?_eq_getElem hj]; rfl)
      rw [show (⟨g, 0, none⟩ : Addr).add j = ⟨g, 0 + j, none⟩ from by unfold Addr.add; split <;> simp_all] at h2
      exact h2)
    rw [List.take_length] at hcon
    exact hcon.mono fun e w' ⟨v', he, ho, _, hb⟩ => ⟨v', he, ho, hb⟩
theorem alloc_new (w : World) (o : Obj) : (w.alloc o).heap[w.heap.size]? = some o := Array.getElem?_push_size (xs := w.heap) (x := o)
theorem alloc_sz (w : World) (o : Obj) : (w.alloc o).heap.size = w.heap.size + 1 := Array.size_push (xs := w.heap) o
theorem drewN_heap (w : World) (n : Nat) : (w.drewN n).heap = w.heap := rfl
theorem ls_start (w : World) (a : Int) (nd : Nat) :
    LS (((((w.alloc (.cells #[.int .i64 a] 3)).drewN nd).alloc (.cells #[] 3)).alloc (.cells #[.slice (some ⟨w.heap.size + 1, 0, none⟩) 0 0] 22)).alloc (.cells #[.int .i64 1125899906842624] 3)) w.heap.size (w.heap.size + 1 + 1) (w.heap.size + 1 + 1 + 1) a (.slice (some ⟨w.heap.size + 1, 0, none⟩) 0 0) ([], 1125899906842624) := by
  have s0 := alloc_sz w (.cells #[.int .i64 a] 3)
  have h0 := alloc_new w (.cells #[.int .i64 a] 3)
  generalize w.alloc (.cells #[.int .i64 a] 3) = w0 at *
  have s1 : (w0.drewN nd).heap.size = w0.heap.size := rfl
  have h1 : (w0.drewN nd).heap[w.heap.size]? = some (.cells #[.int .i64 a] 3) := h0
  generalize w0.drewN nd = w1 at *
  have s2 := alloc_sz w1 (.cells #[] 3)
  have h2 := alloc_new w1 (.cells #[] 3)
  have g2 := (Below.heap_alloc w1 (.cells #[] 3) w.heap.size (by omega)).trans h1
  generalize w1.alloc (.cells #[] 3) = w2 at *
  have s3 := alloc_sz w2 (.cells #[.slice (some ⟨w.heap.size + 1, 0, none⟩) 0 0] 22)
  have h3 := alloc_new w2 (.cells #[.slice (some ⟨w.heap.size + 1, 0, none⟩) 0 0] 22)
  have g3 := (Below.heap_alloc w2 (.cells #[.slice (some ⟨w.heap.size + 1, 0, none⟩) 0 0] 22) w.heap.size (by omega)).trans g2
  have f3 := (Below.heap_alloc w2 (.cells #[.slice (some ⟨w.heap.size + 1, 0, none⟩) 0 0] 22) w1.heap.size (by omega)).trans h2
  generalize w2.alloc (.cells #[.slice (some ⟨w.heap.size + 1, 0, none⟩) 0 0] 22) = w3 at *
  have h4 := alloc_new w3 (.cells #[.int .i64 1125899906842624] 3)
  have g4 := (Below.heap_alloc w3 (.cells #[.int .i64 1125899906842624] 3) w.heap.size (by omega)).trans g3
  have f4 := (Below.heap_alloc w3 (.cells #[.int .i64 1125899906842624] 3) w1.heap.size (by omega)).trans f3
  have e4 := (Below.heap_alloc w3 (.cells #[.int .i64 1125899906842624] 3) w2.heap.size (by omega)).trans h3
  rw [show w3.heap.size = w.heap.size + 1 + 1 + 1 by omega] at h4
  rw [show w2.heap.size = w.heap.size + 1 + 1 by omega] at e4
  rw [show w1.heap.size = w.heap.size + 1 by omega] at f4
  refine ⟨g4, e4, h4, by omega, ⟨rfl, .inr ⟨w.heap.size + 1, 0, #[], rfl, Nat.zero_le _, f4, Nat.le_refl _, by unfold maxLen; omega, rfl, rfl⟩⟩, fun k hk => ?_⟩
  simp [Value.ownBlock] at hk
  omega
theorem LS.drew {W : World} {B0 B5 B6 : Nat} {a : Int} {vb : Value} {st : List Int × Int} (h : LS W B0 B5 B6 a vb st) : LS W.drew B0 B5 B6 a vb st := ⟨h.b0, h.b5, h.b6, h.n, h.row⟩
theorem row_nil (W : World) (B5 B6 : Nat) : RowAt W B5 B6 (.slice none 0 0) [] := ⟨⟨rfl, .inl ⟨rfl, rfl⟩⟩, fun k hk => by simp [Value.ownBlock] at hk⟩
set_option maxHeartbeats 4000000 in
set_option maxRecDepth 100000 in
theorem impl_LeastSumMarks.calls (k : Nat) (a0 : Int) (r1 : List Int) (r2 : Int) (r3 : Bool) (w : World) (h : impl_LeastSumMarks.f k a0 = some (r1, r2, r3)) :
    Calls Try.prog 5 #[.int .i64 a0] w fun e w' => ∃ v0_ : Value, e = .returned (.tuple #[v0_, .int .i64 r2, .bool r3]) ∧ Kd.R (Kd.int .i64) 3 w' w.heap.size (fun _ => True) v0_ r1 ∧ Below w.heap.size w w' := by
  unfold impl_LeastSumMarks.f at h
  have hwi : ∀ b : Bool, b = decide (0 ≤ a0 ∧ a0 ≤ 14) → impl_isListed.f a0 = some b := by
    rintro b rfl
    unfold impl_isListed.f impl_within.f
    by_cases c : a0 ≥ 0
    · rw [if_pos c, Option.bind_some]; congr 1; rw [Bool.eq_iff_iff]; simp; omega
    · rw [if_neg c, Option.bind_some]; congr 1; rw [Bool.eq_iff_iff]; simp; omega
  by_cases c : 0 ≤ a0 ∧ a0 ≤ 14
  · rw [if_pos c] at h
    obtain ⟨fin, h1, h2⟩ := Option.bind_eq_some_iff.1 h
    split at h2
    · rename_i hlen
      have e2 := Option.some.inj h2
      injection e2 with e3 e4
      injection e4 with e5 e6
      subst e3 e5 e6
      have HI := Lib.hid (fun W => impl_isListed.calls a0 true W (hwi true (decide_eq_true c).symm))
      have HMk := Lib.hid (fun (B0 B5 B6 : Nat) (h5 : w.heap.size ≤ B5) (h6 : w.heap.size ≤ B6) (W : World) (v vb : Value) (hL : LS W B0 B5 B6 a0 vb ([], 1125899906842624)) (hR : RowAt W B5 B6 v []) =>
        markings_calls k a0 c.1 c.2 B0 B5 B6 w.heap.size h5 h6 a0.toNat [] 1 (by omega) (by omega) (.inl ⟨rfl, rfl⟩) (by simp; omega) W v vb ([], 1125899906842624) fin hL hR h1)
      clear h h1 h2 c hwi
      go_enter Try.func5, Try.ntmps5
      go_wp2_with (first | (go_at_call 12; refine (HI.out _).mono ?_; rintro e w1 ⟨rfl, ⟨nd, rfl⟩⟩; have HS := Lib.hid (ls_start w a0 nd)) | (go_at_call 13; refine (HMk.out _ _ _ (by omega) (by omega) _ _ _ HS.out (row_nil _ _ _)).mono ?_; rintro e w2 ⟨rfl, vb, hL, hK, hB⟩; have HL := Lib.hid hL; have c5 := hL.c5; have c6 := hL.c6; have HB := Lib.hid ((show Below w.heap.size w _ from by repeat (first | exact Below.refl _ _ | apply below_alloc | apply pw_below_drewN)).trans hB); have HC := Lib.hid (clone_any vb fin.1 w2 hL.row hlen); clear hL hK hB))
      go_region_with (go_at_call 16; refine (clone_any vb fin.1 w2.drew HL.out.drew.row hlen).mono ?_; rintro e w3 ⟨v3, rfl, ho, hb3⟩; have k6 := (HL.out.drew.below hb3).c6; have HO := Lib.hid ho; have HB3 := Lib.hid hb3; clear ho hb3)
      all_goals (try go_wp2)
      all_goals go_ret3
      all_goals exact ⟨v3, rfl, Kd.R_lower (Kd.R_of_own (enc := Value.int .i64) (h1 := fun _ => rfl) HO.out fun _ _ => trivial) HB.out.size, HB.out.drew.trans (HB3.out.mono HB.out.size)⟩
    · cases h2
  · rw [if_neg c] at h
    have e2 := Option.some.inj h
    injection e2 with e3 e4
    injection e4 with e5 e6
    subst e3 e5 e6
    have HI := Lib.hid (fun W => impl_isListed.calls a0 false W (hwi false (decide_eq_false c).symm))
    clear h c hwi
    go_enter Try.func5, Try.ntmps5
    go_wp2_with (first | (go_at_call 12; refine (HI.out _).mono ?_; rintro e w1 ⟨rfl, ⟨nd, rfl⟩⟩))
    go_ret3
    exact ⟨_, rfl, Kd.R_nil _ _ _ _ _, by repeat (first | exact Below.refl _ _ | apply below_alloc | apply pw_below_drewN)⟩

/-! ### laws_eqIntS: function 6 -/
def laws_eqIntS.l0 : Nat → List Int → List Int → Int → Option (Bool)
  | 0, _, _, _ => none
  | k + 1, x0, x1, x5 => if x5 < (x0.length : Int) then (if 0 ≤ x5 then (if x5 < (x1.length : Int) then (if (rd x0 x5) = (rd x1 x5) then (laws_eqIntS.l0 k x0 x1 (wrap64 (x5 + 1))) else (some false)) else (none)) else (none)) else (some true)
def laws_eqIntS.f (k : Nat) (l0 : List Int) (l1 : List Int) : Option (Bool) := if (l0.length : Int) = (l1.length : Int) then (laws_eqIntS.l0 k l0 l1 0) else (some false)
theorem laws_eqIntS.mono_l : ∀ k, (∀ y0 y1 y2, LeO (laws_eqIntS.l0 k y0 y1 y2) (laws_eqIntS.l0 (k + 1) y0 y1 y2))
  | 0 => fun _ _ _ r h => by simp [laws_eqIntS.l0] at h
  | k + 1 => by
    have ih0 := laws_eqIntS.mono_l k
    · intro y0 y1 y2
      unfold laws_eqIntS.l0
      repeat' first
      | (with_reducible exact ih0 _ _ _)
      | (with_reducible exact LeO.refl _)
      | (with_reducible exact LeO.none _)
      | (with_reducible refine LeO.ite ?_ ?_)
      | (with_reducible refine LeO.bind ?_ (fun _ => ?_))
      | exact ih0 _ _ _
      | exact LeO.none _
      | refine LeO.ite ?_ ?_
      | refine LeO.bind ?_ (fun _ => ?_)
theorem laws_eqIntS.mono : ∀ a0 a1 k, LeO (laws_eqIntS.f k a0 a1) (laws_eqIntS.f (k + 1) a0 a1) := by
  intro a0 a1 k
  have ih0 := laws_eqIntS.mono_l k
  unfold laws_eqIntS.f
  repeat' first
      | (with_reducible exact ih0 _ _ _)
      | (with_reducible exact LeO.refl _)
      | (with_reducible exact LeO.none _)
      | (with_reducible refine LeO.ite ?_ ?_)
      | (with_reducible refine LeO.bind ?_ (fun _ => ?_))
      | exact ih0 _ _ _
      | exact LeO.none _
      | refine LeO.ite ?_ ?_
      | refine LeO.bind ?_ (fun _ => ?_)
set_option maxHeartbeats 8000000 in
set_option maxRecDepth 100000 in
theorem laws_eqIntS.calls (k : Nat) (A0 : Option Addr) (c0 : Nat) (l0 : List Int) (A1 : Option Addr) (c1 : Nat) (l1 : List Int) (r : Bool) (w : World) (hr0 : Kd.C (Kd.int .i64) w A0 l0.length l0) (hc0 : l0.length ≤ c0) (hr1 : Kd.C (Kd.int .i64) w A1 l1.length l1) (hc1 : l1.length ≤ c1) (h : laws_eqIntS.f k l0 l1 = some r) :
    Calls Try.prog 6 #[.slice A0 l0.length c0, .slice A1 l1.length c1] w fun e w' => e = .returned (.bool r) ∧ Drawn0 w w' := by
  have HR0 := Aside0.mk hr0
  have HC0 := Aside0.mk hc0
  clear hr0 hc0
  have HR1 := Aside0.mk hr1
  have HC1 := Aside0.mk hc1
  clear hr1 hc1
  have H : (if (l0.length : Int) = (l1.length : Int) then (laws_eqIntS.l0 k l0 l1 0) else (some false)) = some r := h
  clear h
  by_cases c3 : (l0.length : Int) = (l1.length : Int)
  · rw [if_pos c3] at H
    have c3b0 : ((l0.length : Int) == (l1.length : Int)) = true := beq_iff_eq.mpr c3
    have c3b1 : ((l0.length : Int) != (l1.length : Int)) = false := bne_eq_false_iff_eq.mpr c3
    have c3b2 : (l0.length == l1.length) = true := by first | simpa using c3 | (simp at c3 ⊢; omega)
    clear c3
    have H' := Aside0.mk H
    clear H
    go_enter Try.func6, Try.ntmps6
    go_wp2
    repeat (go_quiet (fail); try go_wp2)
    go_loopg [5] k (fun kq v5 w' => ∃ (x5_1 : Int), v5 = .int .i64 x5_1 ∧ Aside0 (laws_eqIntS.l0 kq l0 l1 x5_1 = some r) ∧ Aside0 (kq ≤ k) ∧ Drawn0 w w')
    case atStart => exact ⟨(0), (by first | rfl | (simp; done) | (simp [*]; done)), H', ⟨Nat.le_refl _⟩, by repeat (first | exact Drawn0.refl _ | apply Drawn0.step)⟩
    case round =>
      clear H'
      try clear c1
      try clear p2
      try clear c3
      try clear c3b0
      try clear c3b1
      try clear c3b2
      obtain ⟨x5_1, rfl, HA, HK1, ⟨m1, rfl⟩⟩ := hrel
      cases gk with
      | zero => exact absurd HA.out (by simp [laws_eqIntS.l0])
      | succ k1 =>
        have H := HA.out
        clear HA
        simp only [laws_eqIntS.l0] at H
        by_cases c4 : x5_1 < (l0.length : Int)
        · rw [if_pos c4] at H
          have c4b0 : decide (x5_1 < (l0.length : Int)) = true := decide_eq_true c4
          clear c4
          by_cases c5 : 0 ≤ x5_1
          · rw [if_pos c5] at H
            have c5b0 : decide (0 ≤ x5_1) = true := decide_eq_true c5
            clear c5
            by_cases c6 : x5_1 < (l1.length : Int)
            · rw [if_pos c6] at H
              have c6b0 : decide (x5_1 < (l1.length : Int)) = true := decide_eq_true c6
              clear c6
              by_cases c7 : (rd l0 x5_1) = (rd l1 x5_1)
              · rw [if_pos c7] at H
                have c7b0 : ((rd l0 x5_1) == (rd l1 x5_1)) = true := beq_iff_eq.mpr c7
                have c7b1 : ((rd l0 x5_1) != (rd l1 x5_1)) = false := bne_eq_false_iff_eq.mpr c7
                clear c7
                have H' := Aside0.mk H
                clear H
                have p163 : 0 ≤ (x5_1 : Int) := of_decide_eq_true (by first | (with_reducible assumption) | assumption)
                have q163 : x5_1 < (l0.length : Int) := of_decide_eq_true (by first | (with_reducible assumption) | assumption)
                obtain ⟨ad163, e163, hx163_0⟩ := Kd.at_int HR0.out x5_1 p163 q163
                cases e163
                replace p163 := eq_true p163
                replace q163 := eq_true q163
                have p164 : 0 ≤ (x5_1 : Int) := of_decide_eq_true (by first | (with_reducible assumption) | assumption)
                have q164 : x5_1 < (l1.length : Int) := of_decide_eq_true (by first | (with_reducible assumption) | assumption)
                obtain ⟨ad164, e164, hx164_0⟩ := Kd.at_int HR1.out x5_1 p164 q164
                cases e164
                replace p164 := eq_true p164
                replace q164 := eq_true q164
                go_wp2
                repeat (go_quiet (fail); try go_wp2)
                go_roundg k1
                case measure => have := HK1.out; omega
                case rel => exact ⟨(wrap64 (x5_1 + 1)), (by first | rfl | (simp; done) | (simp [*]; done)), H', ⟨by have := HK1.out; omega⟩, by repeat (first | exact Drawn0.refl _ | apply Drawn0.step)⟩
              · rw [if_neg c7] at H
                have c7b0 : ((rd l0 x5_1) == (rd l1 x5_1)) = false := beq_eq_false_iff_ne.mpr c7
                have c7b1 : ((rd l0 x5_1) != (rd l1 x5_1)) = true := bne_iff_ne.mpr c7
                obtain rfl := Option.some.inj H
                have p163 : 0 ≤ (x5_1 : Int) := of_decide_eq_true (by first | (with_reducible assumption) | assumption)
                have q163 : x5_1 < (l0.length : Int) := of_decide_eq_true (by first | (with_reducible assumption) | assumption)
                obtain ⟨ad163, e163, hx163_0⟩ := Kd.at_int HR0.out x5_1 p163 q163
                cases e163
                replace p163 := eq_true p163
                replace q163 := eq_true q163
                have p164 : 0 ≤ (x5_1 : Int) := of_decide_eq_true (by first | (with_reducible assumption) | assumption)
                have q164 : x5_1 < (l1.length : Int) := of_decide_eq_true (by first | (with_reducible assumption) | assumption)
                obtain ⟨ad164, e164, hx164_0⟩ := Kd.at_int HR1.out x5_1 p164 q164
                cases e164
                replace p164 := eq_true p164
                replace q164 := eq_true q164
                go_wp2
                repeat (go_quiet (fail); try go_wp2)
                go_ret
                exact ⟨by first | rfl | (simp; done) | (simp [*]; done), by repeat (first | exact Drawn0.refl _ | apply Drawn0.step)⟩
            · rw [if_neg c6] at H
              exact absurd H (by simp)
          · rw [if_neg c5] at H
            exact absurd H (by simp)
        · rw [if_neg c4] at H
          have c4b0 : decide (x5_1 < (l0.length : Int)) = false := decide_eq_false c4
          clear c4
          obtain rfl := Option.some.inj H
          go_wp2
          repeat (go_quiet (fail); try go_wp2)
          go_ret
          exact ⟨by first | rfl | (simp; done) | (simp [*]; done), by repeat (first | exact Drawn0.refl _ | apply Drawn0.step)⟩
  · rw [if_neg c3] at H
    have c3b0 : ((l0.length : Int) == (l1.length : Int)) = false := beq_eq_false_iff_ne.mpr c3
    have c3b1 : ((l0.length : Int) != (l1.length : Int)) = true := bne_iff_ne.mpr c3
    have c3b2 : (l0.length == l1.length) = false := by first | simpa using c3 | (simp at c3 ⊢; omega)
    obtain rfl := Option.some.inj H
    go_enter Try.func6, Try.ntmps6
    go_wp2
    repeat (go_quiet (fail); try go_wp2)
    go_ret
    exact ⟨by first | rfl | (simp; done) | (simp [*]; done), by repeat (first | exact Drawn0.refl _ | apply Drawn0.step)⟩

/-! ### laws_markIntS: function 7 -/
def laws_markIntS.l0 : Nat → List Int → Int → Int → Option (Int × List Int)
  | 0, _, _, _ => none
  | k + 1, x0, x1, x5 => if x5 < (x0.length : Int) then (if 0 ≤ x5 then (laws_markIntS.l0 k (x0.set (x5 : Int).toNat x1) (wrap64 (x1 + 1)) (wrap64 (x5 + 1))) else (none)) else (some (x1, x0))
def laws_markIntS.f (k : Nat) (l0 : List Int) (a1 : Int) : Option (Int × List Int) := laws_markIntS.l0 k l0 a1 0
theorem laws_markIntS.mono_l : ∀ k, (∀ y0 y1 y2, LeO (laws_markIntS.l0 k y0 y1 y2) (laws_markIntS.l0 (k + 1) y0 y1 y2))
  | 0 => fun _ _ _ r h => by simp [laws_markIntS.l0] at h
  | k + 1 => by
    have ih0 := laws_markIntS.mono_l k
    · intro y0 y1 y2
      unfold laws_markIntS.l0
      repeat' first
      | (with_reducible exact ih0 _ _ _)
      | (with_reducible exact LeO.refl _)
      | (with_reducible exact LeO.none _)
      | (with_reducible refine LeO.ite ?_ ?_)
      | (with_reducible refine LeO.bind ?_ (fun _ => ?_))
      | exact ih0 _ _ _
      | exact LeO.none _
      | refine LeO.ite ?_ ?_
      | refine LeO.bind ?_ (fun _ => ?_)
theorem laws_markIntS.mono : ∀ a0 a1 k, LeO (laws_markIntS.f k a0 a1) (laws_markIntS.f (k + 1) a0 a1) := by
  intro a0 a1 k
  have ih0 := laws_markIntS.mono_l k
  unfold laws_markIntS.f
  repeat' first
      | (with_reducible exact ih0 _ _ _)
      | (with_reducible exact LeO.refl _)
      | (with_reducible exact LeO.none _)
      | (with_reducible refine LeO.ite ?_ ?_)
      | (with_reducible refine LeO.bind ?_ (fun _ => ?_))
      | exact ih0 _ _ _
      | exact LeO.none _
      | refine LeO.ite ?_ ?_
      | refine LeO.bind ?_ (fun _ => ?_)
set_option maxHeartbeats 8000000 in
set_option maxRecDepth 100000 in
theorem laws_markIntS.calls (k : Nat) (P0_ : Nat → Prop) (u9000_ : Value) (l0 : List Int) (a1 : Int) (r1 : Int) (r2 : List Int) (w0 w : World) (hB : Below w0.heap.size w0 w) (ho0 : Kd.R (Kd.int .i64) 3 w w0.heap.size P0_ u9000_ l0) (h : laws_markIntS.f k l0 a1 = some (r1, r2)) :
    Calls Try.prog 7 #[u9000_, .int .i64 a1] w fun e w' => e = .returned (.int .i64 r1) ∧ Kd.R (Kd.int .i64) 3 w' w0.heap.size (fun k_ => (P0_ k_ ∨ w.heap.size ≤ k_)) u9000_ r2 ∧ Below w0.heap.size w0 w' ∧ Kept w w' (fun k_ => P0_ k_) := by
  have HO0 := Aside0.mk (show Kd.R (Kd.int .i64) 3 w w0.heap.size (fun k_ => (P0_ k_ ∨ w.heap.size ≤ k_)) u9000_ l0 from Kd.R_mono ho0 (fun k_ hk => (.inl hk)))
  have HK := Aside0.mk (Kept.refl w (fun k_ => P0_ k_))
  have HW0 := Aside0.mk hB.size
  have HB := Aside0.mk hB
  clear hB
  have H : (laws_markIntS.l0 k l0 a1 0) = some (r1, r2) := h
  clear h
  have H' := Aside0.mk H
  clear H
  go_enter Try.func7, Try.ntmps7
  go_wp2
  go_loopg [1, 5] k (fun kq v1 v5 w' => ∃ (x0_1 : List Int) (x1_1 : Int) (x5_1 : Int), v1 = .int .i64 x1_1 ∧ v5 = .int .i64 x5_1 ∧ Aside0 (laws_markIntS.l0 kq x0_1 x1_1 x5_1 = some (r1, r2)) ∧ Aside0 (kq ≤ k) ∧ Aside0 (Kd.R (Kd.int .i64) 3 w' w0.heap.size (fun k_ => (P0_ k_ ∨ w.heap.size ≤ k_)) u9000_ x0_1) ∧ Aside0 (Kept w w' (fun k_ => P0_ k_)) ∧ Aside0 (Below w0.heap.size w0 w'))
  case atStart => exact ⟨(l0), (a1), (0), (by first | rfl | (simp; done) | (simp [*]; done)), (by first | rfl | (simp; done) | (simp [*]; done)), H', ⟨Nat.le_refl _⟩, ⟨by (with_reducible repeat (first | apply Kd.R_alloc | apply Kd.R_drewN | apply Kd.R_drew)); exact HO0.out⟩, ⟨by repeat (first | (with_reducible first | exact HK.out | apply Kept.alloc | apply Kept.drewN | apply Kept.drew) | exact HK.out)⟩, ⟨by repeat (first | (with_reducible first | exact HB.out | apply below_alloc | apply pw_below_drewN | apply below_drew1) | exact HB.out)⟩⟩
  case round =>
    clear H'
    try clear p2
    obtain ⟨x0_1, x1_1, x5_1, rfl, rfl, HA, HK1, HO_0, HK, HB⟩ := hrel
    cases gk with
    | zero => exact absurd HA.out (by simp [laws_markIntS.l0])
    | succ k1 =>
      have H := HA.out
      clear HA
      simp only [laws_markIntS.l0] at H
      by_cases c3 : x5_1 < (x0_1.length : Int)
      · rw [if_pos c3] at H
        have c3b0 : decide (x5_1 < (x0_1.length : Int)) = true := decide_eq_true c3
        clear c3
        by_cases c4 : 0 ≤ x5_1
        · rw [if_pos c4] at H
          have c4b0 : decide (0 ≤ x5_1) = true := decide_eq_true c4
          clear c4
          obtain ⟨y165, hy165⟩ : ∃ y_ : List Int, y_ = (x0_1.set (x5_1 : Int).toNat x1_1) := ⟨_, rfl⟩
          replace H : (laws_markIntS.l0 k1 y165 (wrap64 (x1_1 + 1)) (wrap64 (x5_1 + 1))) = some (r1, r2) := by first | (rw [hy165]; with_reducible exact H) | (have H2_ := (Option.bind_some _ _).symm.trans H; rw [hy165]; with_reducible exact H2_) | (have H2_ := (Option.bind_some _ _).symm.trans H; with_reducible exact H2_) | with_reducible exact H | (rw [hy165]; exact H) | exact H
          have Ny165 := Aside0.mk hy165
          clear hy165
          have H' := Aside0.mk H
          clear H
          obtain ⟨Ao6, co6, eo6⟩ := Kd.R_slice HO_0.out
          subst eo6
          have p5 : 0 ≤ (x5_1 : Int) := of_decide_eq_true (by first | (with_reducible assumption) | assumption)
          have q5 : (x5_1 : Int) < ((x0_1.length : Int) : Int) := of_decide_eq_true (by first | (with_reducible assumption) | assumption)
          obtain ⟨go5, co5, eo5, gb5, gl5, cl5, HG5⟩ := Kd.R_form HO_0.out (by omega)
          (first | cases eo5 | (injection eo5 with ea_ en_ ec_; (first | subst ea_ | (injection ea_ with ea_; subst ea_)); subst ec_; clear en_))
          have GB5 := Aside0.mk gb5
          have GG5 := Aside0.mk HG5
          clear gb5 gl5 HG5
          have HMgo5 := Aside0.mk (show (P0_ go5 ∨ w.heap.size ≤ go5) from (HO_0.out.1 _ rfl))
          obtain ⟨hx5_0, hf5_0⟩ := Kd.R_celln 0 HO_0.out (x5_1 : Int) p5 q5
          replace p5 := eq_true p5
          replace q5 := eq_true q5
          have HP7 := Kd.R_putg HO_0.out (x5_1 : Int) x1_1
          go_wp2_with (first | ((with_reducible refine gate_store (t := 3) (p := 15) rfl ?_); refine store_event (t := 3) (p := 15) (v := ?vo_w8) (w1 := (wr.setCell ⟨go5, (x5_1 : Int).toNat, none⟩ (.int .i64 x1_1))) ?hg ?ho ?hn ?hr ?_; (case ho => rfl); (case hg => rfl); (case hn => rfl); (case hr => first | (go_simp; done) | (go_simp; rfl)); intro w8 hw; have hg : wr.grownBy w8 (some go5) := (by rw [hw]; exact HP7.2); have hp_ : Kd.R (Kd.int .i64) 3 w8 w0.heap.size (fun k_ => (P0_ k_ ∨ w.heap.size ≤ k_)) (.slice (some ⟨go5, 0, none⟩) x0_1.length co6) y165 := (by rw [hw, Ny165.out]; exact HP7.1); clear HP7; have n0_ := Aside0.mk (hp_); have n1_ := Aside0.mk ((by rw [hw]; exact below_set (HB.out) GB5.out : Below w0.heap.size w0 w8)); have n2_ := Aside0.mk (Kept.of_grown (S := (fun k_ => P0_ k_)) hg (by repeat (first | (with_reducible first | exact HK.out | apply Kept.alloc | apply Kept.drewN | apply Kept.drew) | exact HK.out)) (fun k_ e_ => (HO_0.out.1 k_ e_))); clear HO_0; clear HB; clear HK; have HO_0 := n0_; have HB := n1_; have HK := n2_; clear n0_ n1_ n2_; clear hg hw hp_))
          go_roundg k1
          case measure => have := HK1.out; omega
          case rel => exact ⟨(y165), (wrap64 (x1_1 + 1)), (wrap64 (x5_1 + 1)), (by first | rfl | (simp; done) | (simp [*]; done)), (by first | rfl | (simp; done) | (simp [*]; done)), H', ⟨by have := HK1.out; omega⟩, ⟨by (with_reducible repeat (first | apply Kd.R_alloc | apply Kd.R_drewN | apply Kd.R_drew)); exact HO_0.out⟩, ⟨by repeat (first | (with_reducible first | exact HK.out | apply Kept.alloc | apply Kept.drewN | apply Kept.drew) | exact HK.out)⟩, ⟨by repeat (first | (with_reducible first | exact HB.out | apply below_alloc | apply pw_below_drewN | apply below_drew1) | exact HB.out)⟩⟩
        · rw [if_neg c4] at H
          exact absurd H (by simp)
      · rw [if_neg c3] at H
        have c3b0 : decide (x5_1 < (x0_1.length : Int)) = false := decide_eq_false c3
        clear c3
        simp only [Option.some.injEq, Prod.mk.injEq] at H
        obtain ⟨rfl, rfl⟩ := H
        obtain ⟨Ao9, co9, eo9⟩ := Kd.R_slice HO_0.out
        subst eo9
        go_wp2
        go_ret
        exact ⟨by first | rfl | (simp [errW_none, errW_some] <;> rfl) | (simp [*, errW_none, errW_some] <;> rfl), by (with_reducible repeat (first | apply Kd.R_alloc | apply Kd.R_drewN | apply Kd.R_drew)); exact HO_0.out, by repeat (first | (with_reducible first | exact HB.out | apply below_alloc | apply pw_below_drewN | apply below_drew1) | exact HB.out), by repeat (first | (with_reducible first | exact HK.out | apply Kept.alloc | apply Kept.drewN | apply Kept.drew) | exact HK.out)⟩

/-! ### laws_heldIntS: function 8 -/
def laws_heldIntS.l0 : Nat → List Int → Int → Int → Option (Int)
  | 0, _, _, _ => none
  | k + 1, x0, x1, x5 => if x5 < (x0.length : Int) then (if 0 ≤ x5 then (if (rd x0 x5) = x1 then (laws_heldIntS.l0 k x0 (wrap64 (x1 + 1)) (wrap64 (x5 + 1))) else (some (-1))) else (none)) else (some x1)
def laws_heldIntS.f (k : Nat) (l0 : List Int) (a1 : Int) : Option (Int) := laws_heldIntS.l0 k l0 a1 0
theorem laws_heldIntS.mono_l : ∀ k, (∀ y0 y1 y2, LeO (laws_heldIntS.l0 k y0 y1 y2) (laws_heldIntS.l0 (k + 1) y0 y1 y2))
  | 0 => fun _ _ _ r h => by simp [laws_heldIntS.l0] at h
  | k + 1 => by
    have ih0 := laws_heldIntS.mono_l k
    · intro y0 y1 y2
      unfold laws_heldIntS.l0
      repeat' first
      | (with_reducible exact ih0 _ _ _)
      | (with_reducible exact LeO.refl _)
      | (with_reducible exact LeO.none _)
      | (with_reducible refine LeO.ite ?_ ?_)
      | (with_reducible refine LeO.bind ?_ (fun _ => ?_))
      | exact ih0 _ _ _
      | exact LeO.none _
      | refine LeO.ite ?_ ?_
      | refine LeO.bind ?_ (fun _ => ?_)
theorem laws_heldIntS.mono : ∀ a0 a1 k, LeO (laws_heldIntS.f k a0 a1) (laws_heldIntS.f (k + 1) a0 a1) := by
  intro a0 a1 k
  have ih0 := laws_heldIntS.mono_l k
  unfold laws_heldIntS.f
  repeat' first
      | (with_reducible exact ih0 _ _ _)
      | (with_reducible exact LeO.refl _)
      | (with_reducible exact LeO.none _)
      | (with_reducible refine LeO.ite ?_ ?_)
      | (with_reducible refine LeO.bind ?_ (fun _ => ?_))
      | exact ih0 _ _ _
      | exact LeO.none _
      | refine LeO.ite ?_ ?_
      | refine LeO.bind ?_ (fun _ => ?_)
set_option maxHeartbeats 8000000 in
set_option maxRecDepth 100000 in
theorem laws_heldIntS.calls (k : Nat) (A0 : Option Addr) (c0 : Nat) (l0 : List Int) (a1 : Int) (r : Int) (w : World) (hr0 : Kd.C (Kd.int .i64) w A0 l0.length l0) (hc0 : l0.length ≤ c0) (h : laws_heldIntS.f k l0 a1 = some r) :
    Calls Try.prog 8 #[.slice A0 l0.length c0, .int .i64 a1] w fun e w' => e = .returned (.int .i64 r) ∧ Drawn0 w w' := by
  have HR0 := Aside0.mk hr0
  have HC0 := Aside0.mk hc0
  clear hr0 hc0
  have H : (laws_heldIntS.l0 k l0 a1 0) = some r := h
  clear h
  have H' := Aside0.mk H
  clear H
  go_enter Try.func8, Try.ntmps8
  go_wp2
  go_loopg [1, 5] k (fun kq v1 v5 w' => ∃ (x1_1 : Int) (x5_1 : Int), v1 = .int .i64 x1_1 ∧ v5 = .int .i64 x5_1 ∧ Aside0 (laws_heldIntS.l0 kq l0 x1_1 x5_1 = some r) ∧ Aside0 (kq ≤ k) ∧ Drawn0 w w')
  case atStart => exact ⟨(a1), (0), (by first | rfl | (simp; done) | (simp [*]; done)), (by first | rfl | (simp; done) | (simp [*]; done)), H', ⟨Nat.le_refl _⟩, by repeat (first | exact Drawn0.refl _ | apply Drawn0.step)⟩
  case round =>
    clear H'
    try clear p2
    obtain ⟨x1_1, x5_1, rfl, rfl, HA, HK1, ⟨m1, rfl⟩⟩ := hrel
    cases gk with
    | zero => exact absurd HA.out (by simp [laws_heldIntS.l0])
    | succ k1 =>
      have H := HA.out
      clear HA
      simp only [laws_heldIntS.l0] at H
      by_cases c3 : x5_1 < (l0.length : Int)
      · rw [if_pos c3] at H
        have c3b0 : decide (x5_1 < (l0.length : Int)) = true := decide_eq_true c3
        clear c3
        by_cases c4 : 0 ≤ x5_1
        · rw [if_pos c4] at H
          have c4b0 : decide (0 ≤ x5_1) = true := decide_eq_true c4
          clear c4
          by_cases c5 : (rd l0 x5_1) = x1_1
          · rw [if_pos c5] at H
            have c5b0 : ((rd l0 x5_1) == x1_1) = true := beq_iff_eq.mpr c5
            have c5b1 : ((rd l0 x5_1) != x1_1) = false := bne_eq_false_iff_eq.mpr c5
            clear c5
            have H' := Aside0.mk H
            clear H
            have p166 : 0 ≤ (x5_1 : Int) := of_decide_eq_true (by first | (with_reducible assumption) | assumption)
            have q166 : x5_1 < (l0.length : Int) := of_decide_eq_true (by first | (with_reducible assumption) | assumption)
            obtain ⟨ad166, e166, hx166_0⟩ := Kd.at_int HR0.out x5_1 p166 q166
            cases e166
            replace p166 := eq_true p166
            replace q166 := eq_true q166
            go_wp2
            go_roundg k1
            case measure => have := HK1.out; omega
            case rel => exact ⟨(wrap64 (x1_1 + 1)), (wrap64 (x5_1 + 1)), (by first | rfl | (simp; done) | (simp [*]; done)), (by first | rfl | (simp; done) | (simp [*]; done)), H', ⟨by have := HK1.out; omega⟩, by repeat (first | exact Drawn0.refl _ | apply Drawn0.step)⟩
          · rw [if_neg c5] at H
            have c5b0 : ((rd l0 x5_1) == x1_1) = false := beq_eq_false_iff_ne.mpr c5
            have c5b1 : ((rd l0 x5_1) != x1_1) = true := bne_iff_ne.mpr c5
            obtain rfl := Option.some.inj H
            have p166 : 0 ≤ (x5_1 : Int) := of_decide_eq_true (by first | (with_reducible assumption) | assumption)
            have q166 : x5_1 < (l0.length : Int) := of_decide_eq_true (by first | (with_reducible assumption) | assumption)
            obtain ⟨ad166, e166, hx166_0⟩ := Kd.at_int HR0.out x5_1 p166 q166
            cases e166
            replace p166 := eq_true p166
            replace q166 := eq_true q166
            go_wp2
            go_ret
            exact ⟨by first | rfl | (simp; done) | (simp [*]; done), by repeat (first | exact Drawn0.refl _ | apply Drawn0.step)⟩
        · rw [if_neg c4] at H
          exact absurd H (by simp)
      · rw [if_neg c3] at H
        have c3b0 : decide (x5_1 < (l0.length : Int)) = false := decide_eq_false c3
        clear c3
        obtain rfl := Option.some.inj H
        go_wp2
        go_ret
        exact ⟨by first | rfl | (simp; done) | (simp [*]; done), by repeat (first | exact Drawn0.refl _ | apply Drawn0.step)⟩

end Go.Proofs.Ytgjeoeafpdiifaa.QFnExactLeastSumMarks
