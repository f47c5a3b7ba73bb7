/- The program's dropsText and kindTestsText tell drops and tests as texts; no conditions beyond those stated. -/
import Derived.Test.YtbgmhdlmhncdcaaDoorHPred
import Derived.Lib.OthersKept
namespace Go.Proofs.YtbgmhdlmhncdcaaDoor.Hand
open Go Go.Proofs Go.RowKit Go.Shelf Go.Lib Go.Proofs.YtbgmhdlmhncdcaaDoorW.PrintWords Go.Proofs.YtbgmhdlmhncdcaaDoorW.PrintMore
set_option maxRecDepth 100000
set_option linter.unusedVariables false

theorem ownF_kept {w w1 : World} {base : Nat} {e : TypeId} {size n : Nat} {v : Value} {xs : List Value} (h : w.ownsRowF base e size v n xs) (hb : Below w.heap.size w w1) : w1.ownsRowF base e size v n xs := by
  obtain ⟨h1, h2⟩ := h
  refine ⟨h1, ?_⟩
  rcases h2 with h2 | ⟨g, cap, cur, fz, h3, h4, h5, h6⟩
  · exact .inl h2
  · exact .inr ⟨g, cap, cur, fz, h3, h4, (hb.block g (Array.getElem?_eq_some_iff.1 h5).1).trans h5, h6⟩
theorem builderAt_kept {T e : TypeId} {B b : Nat} {p : Value} {bs : List Value} {w w1 : World} (h : BuilderAtF T e B b p bs w) (hb : Below w.heap.size w w1) : BuilderAtF T e B b p bs w1 := by
  obtain ⟨h1, v, h2, h3, h4⟩ := h
  exact ⟨h1, v, (hb.block b (Array.getElem?_eq_some_iff.1 h2).1).trans h2, ownF_kept h3 hb, h4⟩
theorem builder_kept {T e : TypeId} {B b : Nat} {bs : List Value} {w w1 : World} (h : IsBuilderF T e B b bs w) (hb : Below w.heap.size w w1) : IsBuilderF T e B b bs w1 :=
  h.elim (fun x => .inl (builderAt_kept x hb)) (fun x => .inr (builderAt_kept x hb))
theorem cell_at {w : World} {b : Nat} {cs : Array Value} {t : TypeId} {fz : Nat × Nat} (h : w.heap[b]? = some (.cells cs t fz)) (i : Nat) (v : Value) (hi : cs[i]? = some v) : w.cell? ⟨b, i, none⟩ = some v := by
  unfold World.cell?; rw [h]; simpa using hi
theorem some_ne {a b : Nat} (h : a ≠ b) : some a ≠ some b := fun e => h (Option.some.inj e)
theorem cells_ne {cs : Array Value} {t u : TypeId} {f : Nat × Nat} (h : t ≠ u) : ∀ c fz, Obj.cells cs t f ≠ .cells c u fz := fun c fz e => h (by injection e)
/-- A text written into a builder of the call's own. -/
theorem write_calls (B b : Nat) (l : List UInt8) (s : ByteArray) (w : World) (h : IsBuilderF 109 5 B b (byteCells l) w) (hlen : l.length + s.size ≤ 140737488355328) (hB : B ≤ w.heap.size) :
    Calls Tryd.prog 96 #[.pointer (some ⟨b, 0, none⟩), .string s] w fun e w' => e = .returned (.tuple #[.int .i64 s.size, .nilIface]) ∧ IsBuilderF 109 5 B b (byteCells (l ++ s.data.toList)) w' ∧ Below B w w' ∧ OthersKept 5 (some b) w w' := by
  refine (Any.Builder_WriteString_k (ρ := Tryd.lays156_ren) { Tryd.lays156 with } Tryd.Builder_Extra_156 B b (byteCells l) s w h (by simpa [byteCells] using hlen) hB).mono ?_
  rintro e w' ⟨rfl, h1, h2, h3⟩
  refine ⟨rfl, .inr ?_, h2, h3⟩
  rw [byteCells_append, ← strCells_eq]
  exact h1
theorem text_calls (B b : Nat) (l : List UInt8) (w : World) (h : IsBuilderF 109 5 B b (byteCells l) w) (hB : B ≤ w.heap.size) :
    Calls Tryd.prog 97 #[.pointer (some ⟨b, 0, none⟩)] w fun e w' => e = .returned (.string ⟨l.toArray⟩) ∧ Below B w w' := by
  refine (Any.Builder_String_any_k (ρ := Tryd.lays169_ren) Tryd.lays169 Tryd.Builder_Extra_169 B b l w h hB).mono ?_
  rintro e w' ⟨rfl, h1, h2, h3⟩
  exact ⟨rfl, h2⟩
/-- The text of drops. -/
def dropT (z : Int × Bool) : List UInt8 := Lib.decDigits z.1.toNat ++ [if z.2 then 33 else 46]
def dropsT (zs : List (Int × Bool)) : List UInt8 := zs.flatMap dropT
theorem dropsT_snoc (zs : List (Int × Bool)) (k : Nat) (h : k < zs.length) : dropsT (zs.take (k + 1)) = dropsT (zs.take k) ++ dropT zs[k] := by
  unfold dropsT; rw [List.take_succ_eq_append_getElem h, List.flatMap_append]; simp
theorem digs_le (n : Nat) : (Lib.decDigits n).length ≤ n + 1 := by
  induction n using Nat.strongRecOn with
  | _ n ih =>
    rw [Lib.decDigits]
    split
    · simp
    · have := ih (n / 10) (by omega)
      rw [List.length_append, List.length_singleton]
      omega
theorem dropsT_len (zs : List (Int × Bool)) (hb : ∀ (j : Nat) (h : j < zs.length), 0 ≤ zs[j].1 ∧ zs[j].1 ≤ 1000) (k : Nat) (hk : k ≤ zs.length) : (dropsT (zs.take k)).length ≤ k * 1010 := by
  induction k with
  | zero => simp [dropsT]
  | succ k ih =>
    have h1 := ih (by omega)
    have h2 := hb k (by omega)
    have h3 := digs_le (zs[k].1).toNat
    rw [dropsT_snoc zs k (by omega), List.length_append]
    unfold dropT
    rw [List.length_append, List.length_singleton]
    omega
set_option maxHeartbeats 4000000 in
theorem dropsText_calls (A : Option Addr) (c : Nat) (zs : List (Int × Bool)) (w : World) (h : RowDrop w A zs) (hl : zs.length ≤ 1000) (hb : ∀ (j : Nat) (h : j < zs.length), 0 ≤ zs[j].1 ∧ zs[j].1 ≤ 1000) (ht : Tab10 w) :
    Calls Tryd.prog 62 #[.slice A zs.length c] w fun e w' => e = .returned (.string ⟨(dropsT zs).toArray⟩) ∧ Below w.heap.size w w' := by
  have HR := Lib.hid h
  have HBD := Lib.hid hb
  have HT := Lib.hid ht
  have HLN := Lib.hid (dropsT_len zs hb)
  have HF := Lib.hid (fresh_isBuilder 109 5 w)
  clear h hb ht
  go_enter Tryd.func62, Tryd.ntmps62
  go_wp2
  go_loopg [5, 9] zs.length (fun gg _ s9 wr => ∃ k : Nat, k ≤ zs.length ∧ zs.length - k ≤ gg ∧ s9 = .int .i64 k ∧ Hid (IsBuilderF 109 5 w.heap.size w.heap.size (byteCells (dropsT (zs.take k))) wr) ∧ Hid (Below w.heap.size w wr))
  case atStart => exact ⟨0, Nat.zero_le _, by omega, rfl, Lib.hid (IsBuilderF.of HF.out), Lib.hid (below_alloc (Below.refl _ _) _)⟩
  case round =>
    obtain ⟨k, hk, hg, rfl, HO, HB1⟩ := hrel
    by_cases hlt : k < zs.length
    · obtain ⟨ad, rfl, hcells⟩ := (rowDrop_below HR.out HB1.out).2 (by omega)
      have hz : zs[k]! = zs[k] := by rw [List.getElem!_eq_getElem?_getD, List.getElem?_eq_getElem hlt]; rfl
      obtain ⟨B0, o0, rfl⟩ : ∃ B0 o0, ad = ⟨B0, o0, none⟩ := by
        have e1 := (cell_spot (hcells 0 (by omega) 0 _ rfl)).1
        exact ⟨_, _, e1⟩
      have hc0 := hcells k hlt 0 _ rfl
      have hc1 := hcells k hlt 1 _ rfl
      rw [addq, Nat.add_zero] at hc0
      rw [addq, ← Nat.add_assoc] at hc1
      rw [hz] at hc0 hc1
      have hbd := HBD.out k hlt
      have HS := Lib.hid (dropsT_snoc zs k hlt)
      obtain ⟨m, hm⟩ : ∃ m : Nat, zs[k].1 = (m : Int) := ⟨(zs[k].1).toNat, by omega⟩
      obtain ⟨q, hq⟩ : ∃ q, zs[k].2 = q := ⟨_, rfl⟩
      unfold dropT at HS
      rw [hm, hq] at HS
      rw [hm] at hc0 hbd
      rw [hq] at hc1
      rw [Int.toNat_natCast] at HS
      have hsz : w.heap.size < wr.heap.size := HO.out.elim (fun x => x.lt) (fun x => x.lt)
      have HLk := Lib.hid (HLN.out k hk)
      have hdm := digs_le m
      have HIT := Lib.hid (fun W hW => itoa_calls m (by omega) W hW)
      have hlen1 : Hid ((dropsT (zs.take k)).length + (⟨(Lib.decDigits m).toArray⟩ : ByteArray).size ≤ 140737488355328) := Lib.hid (by
        have e : (⟨(Lib.decDigits m).toArray⟩ : ByteArray).size = (Lib.decDigits m).length := by simp [ByteArray.size]
        rw [e]; have := HLk.out; omega)
      have hlen2 : Hid ((dropsT (zs.take k) ++ Lib.decDigits m).length + 1 ≤ 140737488355328) := Lib.hid (by rw [List.length_append]; have := HLk.out; omega)
      clear hcells hz hm hq hbd hdm
      generalize dropsT (zs.take k) = L at *
      have HA0 := Lib.hid (below_alloc HB1.out (.cells #[.int .i64 m, .bool q] 73))
      have HA := Lib.hid (below_alloc (Below.refl wr.heap.size wr) (.cells #[.int .i64 m, .bool q] 73))
      have hheap : (wr.alloc (.cells #[.int .i64 m, .bool q] 73)).heap[wr.heap.size]? = some (.cells #[.int .i64 m, .bool q] 73) := heap_alloc_new wr _
      cases q
      all_goals
        have tok : True := trivial
        go_wp2_with (first | (go_at_call 88; refine (HIT.out _ (HT.out.below HA0.out)).mono ?_; rintro e w1 ⟨rfl, hb⟩; have HB2 := Lib.hid (below_step HA0.out hb); have HO2 := Lib.hid (builder_kept HO.out (below_step HA.out hb)); have hh1 := (hb.block _ (by simp)).trans hheap; have HH1 := Lib.hid hh1; clear hb hh1) | (go_at_call 96; have _t := tok; refine (write_calls w.heap.size w.heap.size L ⟨(Lib.decDigits m).toArray⟩ _ HO2.out hlen1.out HB2.out.size).mono ?_; clear tok; rintro e w2 ⟨rfl, h1, h2, h3⟩; have HO3 := Lib.hid (show IsBuilderF 109 5 w.heap.size w.heap.size (byteCells (L ++ Lib.decDigits m)) w2 from h1); have HB3 := Lib.hid (HB2.out.trans h2); have hk2 := h3 _ _ HH1.out (some_ne (Nat.ne_of_gt hsz)) (cells_ne (by decide)); have hcell := cell_at hk2 1 _ rfl; clear h1 h2 h3 hk2) | (go_at_call 96; refine (write_calls w.heap.size w.heap.size (L ++ Lib.decDigits m) _ _ HO3.out (by have := hlen2.out; exact this) HB3.out.size).mono ?_; rintro e w3 ⟨rfl, h1, h2, h3⟩; have HO4 := Lib.hid h1; have HB4 := Lib.hid (HB3.out.trans h2); clear h1 h2 h3))
        have hwk : wrap64 ((k : Int) + 1) = ((k + 1 : Nat) : Int) := by unfold wrap64; omega
        have HO5 : Hid (IsBuilderF 109 5 w.heap.size w.heap.size (byteCells (dropsT (zs.take (k + 1)))) w3) := Lib.hid (by rw [HS.out, ← List.append_assoc]; exact HO4.out)
        go_roundg (zs.length - (k + 1))
        case measure => omega
        case rel => exact ⟨k + 1, by omega, by omega, by first | rw [hwk] | (simp only [hwk]; done) | go_num, HO5, HB4⟩
    · obtain rfl : k = zs.length := by omega
      rw [List.take_length] at HO
      clear hlt hk hg
      go_wp2_with (first | (go_at_call 97; refine (text_calls w.heap.size w.heap.size (dropsT zs) _ HO.out HB1.out.size).mono ?_; rintro e w1 ⟨rfl, hb⟩; have HB2 := Lib.hid (HB1.out.trans hb); clear hb))
      go_ret
      exact ⟨rfl, HB2.out⟩
/-- A row of one drop that the call has just made. -/
theorem one_drop (w : World) (m : Nat) (q : Bool) : RowDrop (w.alloc (.cells #[.int .i64 m, .bool q] 73)) (some ⟨w.heap.size, 0, none⟩) [((m : Int), q)] := by
  refine ⟨by simp, fun _ => ⟨_, rfl, fun j hj i v hi => ?_⟩⟩
  obtain rfl : j = 0 := by simpa using hj
  rw [addq]
  have h := cell_at (heap_alloc_new w (.cells #[.int .i64 m, .bool q] 73)) i v (by
    have e : (encDrop (((m : Int), q)))[i]? = some v := hi
    unfold encDrop at e
    simpa using e)
  simpa using h
/-- The text of tests of two kinds. -/
def kindT (z : Bool × Int × Bool) : List UInt8 := [if z.1 then 115 else 119] ++ dropT (z.2.1, z.2.2)
def kindsT (zs : List (Bool × Int × Bool)) : List UInt8 := zs.flatMap kindT
theorem kindsT_snoc (zs : List (Bool × Int × Bool)) (k : Nat) (h : k < zs.length) : kindsT (zs.take (k + 1)) = kindsT (zs.take k) ++ kindT zs[k] := by
  unfold kindsT; rw [List.take_succ_eq_append_getElem h, List.flatMap_append]; simp
theorem kindsT_len (zs : List (Bool × Int × Bool)) (hb : ∀ (j : Nat) (h : j < zs.length), 0 ≤ zs[j].2.1 ∧ zs[j].2.1 ≤ 1000) (k : Nat) (hk : k ≤ zs.length) : (kindsT (zs.take k)).length ≤ k * 1010 := by
  induction k with
  | zero => simp [kindsT]
  | succ k ih =>
    have h1 := ih (by omega)
    have h2 := hb k (by omega)
    have h3 := digs_le (zs[k].2.1).toNat
    rw [kindsT_snoc zs k (by omega), List.length_append]
    unfold kindT dropT
    simp only [List.length_append, List.length_cons, List.length_nil]
    omega
set_option maxHeartbeats 4000000 in
theorem kindTestsText_calls (A : Option Addr) (c : Nat) (zs : List (Bool × Int × Bool)) (w : World) (h : RowKind w A zs) (hl : zs.length ≤ 1000) (hb : ∀ (j : Nat) (h : j < zs.length), 0 ≤ zs[j].2.1 ∧ zs[j].2.1 ≤ 1000) (ht : Tab10 w) :
    Calls Tryd.prog 71 #[.slice A zs.length c] w fun e w' => e = .returned (.string ⟨(kindsT zs).toArray⟩) ∧ Below w.heap.size w w' := by
  have HR := Lib.hid h
  have HBD := Lib.hid hb
  have HT := Lib.hid ht
  have HLN := Lib.hid (kindsT_len zs hb)
  have HF := Lib.hid (fresh_isBuilder 109 5 w)
  clear h hb ht
  go_enter Tryd.func71, Tryd.ntmps71
  go_wp2
  go_loopg [5, 9] zs.length (fun gg _ s9 wr => ∃ k : Nat, k ≤ zs.length ∧ zs.length - k ≤ gg ∧ s9 = .int .i64 k ∧ Hid (IsBuilderF 109 5 w.heap.size w.heap.size (byteCells (kindsT (zs.take k))) wr) ∧ Hid (Below w.heap.size w wr))
  case atStart => exact ⟨0, Nat.zero_le _, by omega, rfl, Lib.hid (IsBuilderF.of HF.out), Lib.hid (below_alloc (Below.refl _ _) _)⟩
  case round =>
    obtain ⟨k, hk, hg, rfl, HO, HB1⟩ := hrel
    by_cases hlt : k < zs.length
    · obtain ⟨ad, rfl, hcells⟩ := (rowKind_below HR.out HB1.out).2 (by omega)
      have hz : zs[k]! = zs[k] := by rw [List.getElem!_eq_getElem?_getD, List.getElem?_eq_getElem hlt]; rfl
      obtain ⟨B0, o0, rfl⟩ : ∃ B0 o0, ad = ⟨B0, o0, none⟩ := by
        have e1 := (cell_spot (hcells 0 (by omega) 0 _ rfl)).1
        exact ⟨_, _, e1⟩
      have hc0 := hcells k hlt 0 _ rfl
      have hc1 := hcells k hlt 1 _ rfl
      have hc2 := hcells k hlt 2 _ rfl
      rw [addq, Nat.add_zero] at hc0
      rw [addq, ← Nat.add_assoc] at hc1 hc2
      rw [hz] at hc0 hc1 hc2
      have hbd := HBD.out k hlt
      have HS := Lib.hid (kindsT_snoc zs k hlt)
      obtain ⟨m, hm⟩ : ∃ m : Nat, zs[k].2.1 = (m : Int) := ⟨(zs[k].2.1).toNat, by omega⟩
      obtain ⟨q, hq⟩ : ∃ q, zs[k].2.2 = q := ⟨_, rfl⟩
      obtain ⟨s, hs⟩ : ∃ s, zs[k].1 = s := ⟨_, rfl⟩
      unfold kindT at HS
      rw [hm, hq, hs] at HS
      rw [hm] at hc1 hbd
      rw [hq] at hc2
      rw [hs] at hc0
      have hsz : w.heap.size < wr.heap.size := HO.out.elim (fun x => x.lt) (fun x => x.lt)
      have HLk := Lib.hid (HLN.out k hk)
      have hdm := digs_le m
      have hone : dropsT [((m : Int), q)] = dropT ((m : Int), q) := by unfold dropsT; simp
      have HD := Lib.hid (fun W A' c' (hR : RowDrop W A' [((m : Int), q)]) hT => dropsText_calls A' c' [((m : Int), q)] W hR (by simp) (fun j hj => by
        obtain rfl : j = 0 := by simpa using hj
        exact hbd) hT)
      rw [hone] at HD
      have hdl : (dropT ((m : Int), q)).length ≤ 1010 := by unfold dropT; rw [List.length_append, List.length_singleton, Int.toNat_natCast]; omega
      have hlen1 : Hid ((kindsT (zs.take k)).length + 1 ≤ 140737488355328) := Lib.hid (by have := HLk.out; omega)
      have hlen2 : Hid (∀ x : UInt8, (kindsT (zs.take k) ++ [x]).length + (⟨(dropT ((m : Int), q)).toArray⟩ : ByteArray).size ≤ 140737488355328) := Lib.hid (fun x => by
        have e : (⟨(dropT ((m : Int), q)).toArray⟩ : ByteArray).size = (dropT ((m : Int), q)).length := by simp [ByteArray.size]
        rw [e, List.length_append, List.length_singleton]; have := HLk.out; omega)
      clear hcells hz hm hq hs hbd hdm hone hdl
      generalize kindsT (zs.take k) = L at *
      generalize hT2 : dropT ((m : Int), q) = T2 at *
      clear hT2
      have HA0 := Lib.hid (below_alloc HB1.out (.cells #[.bool s, .int .i64 m, .bool q] 81))
      have HA := Lib.hid (builder_kept HO.out (below_alloc (Below.refl wr.heap.size wr) (.cells #[.bool s, .int .i64 m, .bool q] 81)))
      have HH := Lib.hid (heap_alloc_new wr (.cells #[.bool s, .int .i64 m, .bool q] 81))
      cases s
      all_goals
        have tok : True := trivial
        go_wp2_with (first | (go_at_call 96; have _t := tok; refine (write_calls w.heap.size w.heap.size L _ _ HA.out (by have := hlen1.out; exact this) HA0.out.size).mono ?_; clear tok; rintro e w2 ⟨rfl, h1, h2, h3⟩; have HO3 := Lib.hid h1; have HB3 := Lib.hid (HA0.out.trans h2); have hk2 := h3 _ _ HH.out (some_ne (Nat.ne_of_gt hsz)) (cells_ne (by decide)); have hcell1 := cell_at hk2 1 _ rfl; have hcell2 := cell_at hk2 2 _ rfl; clear h1 h2 h3 hk2) | (go_at_call 62; refine (HD.out _ _ _ (one_drop _ m q) (HT.out.below (below_alloc HB3.out _))).mono ?_; rintro e w3 ⟨rfl, hb⟩; have HB4 := Lib.hid (below_step (below_alloc HB3.out _) hb); have HO4 := Lib.hid (builder_kept HO3.out (below_step (below_alloc (Below.refl _ w2) _) hb)); clear hb) | (go_at_call 96; refine (write_calls w.heap.size w.heap.size _ ⟨T2.toArray⟩ _ HO4.out (by have := hlen2.out; exact this _) HB4.out.size).mono ?_; rintro e w4 ⟨rfl, h1, h2, h3⟩; have HO5 := Lib.hid h1; have HB5 := Lib.hid (HB4.out.trans h2); clear h1 h2 h3))
        have hwk : wrap64 ((k : Int) + 1) = ((k + 1 : Nat) : Int) := by unfold wrap64; omega
        have HO6 : Hid (IsBuilderF 109 5 w.heap.size w.heap.size (byteCells (kindsT (zs.take (k + 1)))) w4) := Lib.hid (by rw [HS.out, ← List.append_assoc]; exact HO5.out)
        go_roundg (zs.length - (k + 1))
        case measure => omega
        case rel => exact ⟨k + 1, by omega, by omega, by first | rw [hwk] | (simp only [hwk]; done) | go_num, HO6, HB5⟩
    · obtain rfl : k = zs.length := by omega
      rw [List.take_length] at HO
      clear hlt hk hg
      go_wp2_with (first | (go_at_call 97; refine (text_calls w.heap.size w.heap.size (kindsT zs) _ HO.out HB1.out.size).mono ?_; rintro e w1 ⟨rfl, hb⟩; have HB2 := Lib.hid (HB1.out.trans hb); clear hb))
      go_ret
      exact ⟨rfl, HB2.out⟩
end Go.Proofs.YtbgmhdlmhncdcaaDoor.Hand
