/- The program's numbersText joins decimal numerals with a sign between; no conditions beyond those stated. -/
import Derived.Test.YtbgmhdlmhncdcaaDoorHShelf
import Derived.Lib.SliceRun
import Derived.Lib.LaidTab
import Derived.Lib.SmallJoins
import Derived.Lib.AppendIntMem
import Derived.WalkKit
import Derived.KernelRfl
import Derived.Deep.LoopGhost
import Derived.Lib.Hide
import Derived.Deep.Draws
import Derived.Laws.AppendOwn
import Derived.Test.YtbgmhdlmhncdcaaDoorWWords
import Derived.Test.YtbgmhdlmhncdcaaDoorWMore
namespace Go.Proofs.YtbgmhdlmhncdcaaDoor.Hand
open Go Go.Proofs Go.RowKit Go.Shelf Go.Lib Go.Proofs.YtbgmhdlmhncdcaaDoorW.PrintWords Go.Proofs.YtbgmhdlmhncdcaaDoorW.PrintMore
set_option maxRecDepth 100000
set_option linter.unusedVariables false

theorem bcell {W w1 : World} (hb : Below W.heap.size W w1) : (∀ b o, b < W.heap.size → w1.cell? ⟨b, o, none⟩ = W.cell? ⟨b, o, none⟩) ∧ (∀ b o, b < W.heap.size → w1.frozen? ⟨b, o, none⟩ = W.frozen? ⟨b, o, none⟩) :=
  ⟨fun b o h => hb.cell (p := ⟨b, o, none⟩) h, fun b o h => hb.frozen (p := ⟨b, o, none⟩) h⟩
theorem infoI : (Tryd.prog.info? 3).map (fun i => (i.zero, i.size, i.bytes)) = some (some (.int .i64 0), 1, 8) := by kernel_rfl
theorem infoS : (Tryd.prog.info? 9).map (fun i => (i.zero, i.size, i.bytes)) = some (some (.string ⟨#[]⟩), 1, 16) := by kernel_rfl
theorem addq (b o n : Nat) : (⟨b, o, none⟩ : Addr).add n = ⟨b, o + n, none⟩ := by unfold Addr.add; split <;> simp_all
def inn (a b c : Int) : Bool := decide (b ≤ a) && decide (a ≤ c)
theorem inn_nat {a b c : Int} (h : inn a b c = true) (hb : 0 ≤ b) : ∃ n : Nat, a = n ∧ b ≤ n ∧ (n : Int) ≤ c := by
  unfold inn at h; simp at h; exact ⟨a.toNat, by omega, by omega, by omega⟩
theorem within_all (a b c : Int) (w : World) : Calls Tryd.prog 95 #[.int .i64 a, .int .i64 b, .int .i64 c] w fun r w' => r = .returned (.bool (inn a b c)) ∧ w = w' := by
  unfold inn
  by_cases h1 : b ≤ a
  · by_cases h2 : a ≤ c
    · go_enter Tryd.func95, Tryd.ntmps95
      go_wp2
      go_ret
      exact ⟨by simp [h1, h2], rfl⟩
    · have h3 : decide (a ≤ c) = false := by simpa using h2
      clear h2
      go_enter Tryd.func95, Tryd.ntmps95
      go_wp2
      go_ret
      exact ⟨by simp [h1, h3], rfl⟩
  · have h2 : decide (b ≤ a) = false := by simpa using h1
    clear h1
    go_enter Tryd.func95, Tryd.ntmps95
    go_wp2
    go_ret
    exact ⟨by simp [h2], rfl⟩

/-- The library's table of powers lies as its text lays it. -/
def Tab10 (w : World) : Prop := Lib.TabIs Tryd.prog w "internal/strconv.uint64pow10" .u64 Lib.pow10Tab
theorem g10 : ∃ g, Tryd.prog.globalNamed "internal/strconv.uint64pow10" = some g := Option.isSome_iff_exists.1 (by kernel_rfl)
theorem Tab10.below {w w' : World} (h : Tab10 w) (hb : Below w.heap.size w w') : Tab10 w' := by
  obtain ⟨g, hg⟩ := g10
  exact Go.Joins.tab_stays hg h hb (Nat.le_refl _)
theorem itoa_calls (n : Nat) (hn : n ≤ 4611686018427387904) (w : World) (h : Tab10 w) :
    Calls Tryd.prog 88 #[.int .i64 n] w fun e w' => e = .returned (.string ⟨(Lib.decDigits n).toArray⟩) ∧ Below w.heap.size w w' := by
  refine (Tryd.strconv_Itoa n (by omega) (by omega) w h).mono ?_
  rintro e w' ⟨rfl, k, os, rfl⟩
  refine ⟨?_, below_grow _ w (Nat.le_refl _) k os⟩
  unfold Lib.itoa
  rw [if_neg (by omega), Int.toNat_natCast]

/-- The numerals of a row's numbers. -/
def digs (l : List Int) : List ByteArray := l.map fun n => ⟨(Lib.decDigits n.toNat).toArray⟩
theorem digs_snoc (l : List Int) (kk : Nat) (h : kk < l.length) : digs (l.take (kk + 1)) = digs (l.take kk) ++ [⟨(Lib.decDigits (l[kk]).toNat).toArray⟩] := by
  unfold digs; rw [List.take_succ_eq_append_getElem h, List.map_append]; rfl
theorem digs_len (l : List Int) : (digs l).length = l.length := by unfold digs; simp
def numsT (l : List Int) (sep : List UInt8) : List UInt8 := Lib.join (l.map fun n => Lib.decDigits n.toNat) sep
theorem digs_join (l : List Int) (sep : List UInt8) : Lib.join ((digs l).map (·.data.toList)) sep = numsT l sep := by
  unfold digs numsT; rw [List.map_map]; rfl
theorem own_cells {w : World} {base : Nat} {e : TypeId} {v : Value} {n : Nat} {xs : List Value} (h : w.ownsRow base e 1 v n xs) (h0 : 0 < n) :
    ∃ g cap, v = .slice (some ⟨g, 0, none⟩) n cap ∧ n ≤ cap ∧ g < w.heap.size ∧ ∀ (j : Nat) (x : Value), xs[j]? = some x → w.cell? ⟨g, 0 + j, none⟩ = some x := by
  obtain ⟨h1, h2⟩ := h
  rcases h2 with ⟨_, h2⟩ | ⟨g, cap, cur, rfl, hb, hh, hn, hm, hs, ht⟩
  · omega
  · refine ⟨g, cap, rfl, hn, (Array.getElem?_eq_some_iff.1 hh).1, fun j x hx => ?_⟩
    have hj : j < xs.length := (List.getElem?_eq_some_iff.1 hx).1
    have h3 : cur[j]? = some x := by
      rw [← ht, List.getElem?_take] at hx
      split at hx
      · simpa using hx
      · cases hx
    unfold World.cell?
    rw [hh]
    simp [h3]
theorem own_empty9 (w : World) : (w.alloc (.cells #[] 9)).ownsRow w.heap.size 9 1 (.slice (some ⟨w.heap.size, 0, none⟩) 0 0) 0 [] :=
  ⟨rfl, .inr ⟨w.heap.size, 0, #[], rfl, Nat.le_refl _, Array.getElem?_push_size (xs := w.heap) (x := Obj.cells #[] 9), Nat.le_refl _, Nat.zero_le _, rfl, rfl⟩⟩
theorem own_nil_form {w : World} {base : Nat} {e : TypeId} {v : Value} (h : w.ownsRow base e 1 v 0 []) : ∃ A c, v = .slice A 0 c := by
  obtain ⟨h1, h2⟩ := h
  rcases h2 with ⟨rfl, _⟩ | ⟨g, cap, cur, rfl, _⟩
  · exact ⟨_, _, rfl⟩
  · exact ⟨_, _, rfl⟩
theorem own_kept {w w1 : World} {base : Nat} {e : TypeId} {size n : Nat} {v : Value} {xs : List Value} (h : w.ownsRow base e size v n xs) (hb : Below w.heap.size w w1) : w1.ownsRow base e size v n xs := by
  obtain ⟨h1, h2⟩ := h
  refine ⟨h1, ?_⟩
  rcases h2 with h2 | ⟨g, cap, cur, h3, h4, h5, h6⟩
  · exact .inl h2
  · exact .inr ⟨g, cap, cur, h3, h4, (hb.block g (Array.getElem?_eq_some_iff.1 h5).1).trans h5, h6⟩
theorem join_calls {base : Nat} (v : Value) (xs : List ByteArray) (sep : ByteArray) (w : World) (h : w.ownsRow base 9 1 v xs.length (encs Value.string xs)) (hN : xs.length ≤ 140737488355328) (hj : (Lib.join (xs.map (·.data.toList)) sep.data.toList).length ≤ 140737488355328) :
    Calls Tryd.prog 89 #[v, .string sep] w fun e w' => e = .returned (.string ⟨(Lib.join (xs.map (·.data.toList)) sep.data.toList).toArray⟩) ∧ Below w.heap.size w w' := by
  by_cases h0 : xs.length = 0
  · obtain rfl := List.length_eq_zero_iff.1 h0
    obtain ⟨A, c, rfl⟩ := own_nil_form h
    refine (Tryd.strings_Join_none A c sep w).mono ?_
    rintro e w' ⟨rfl, rfl⟩
    exact ⟨rfl, Below.refl _ _⟩
  · obtain ⟨g, cap, rfl, hn, hg, hc⟩ := own_cells h (by omega)
    refine Tryd.strings_Join g 0 cap xs sep w (fun j x hx => hc j _ ?_) hg hN hn hj
    show (xs.map Value.string)[j]? = _
    rw [List.getElem?_map, hx]; rfl
set_option maxHeartbeats 4000000 in
theorem numbersText_calls (A : Option Addr) (c : Nat) (l : List Int) (sep : ByteArray) (w : World) (h : ReadsInt w .i64 A l.length l) (hl : l.length ≤ 1000000) (hnn : ∀ (j : Nat) (h : j < l.length), 0 ≤ l[j] ∧ l[j] ≤ 1000000)
    (hj : (numsT l sep.data.toList).length ≤ 140737488355328) (ht : Tab10 w) :
    Calls Tryd.prog 55 #[.slice A l.length c, .string sep] w fun e w' => e = .returned (.string ⟨(numsT l sep.data.toList).toArray⟩) ∧ Below w.heap.size w w' := by
  have HR := Lib.hid h
  have HL := Lib.hid hl
  have HNN := Lib.hid hnn
  have HJ := Lib.hid hj
  have HT := Lib.hid ht
  clear h hl hnn hj ht
  go_enter Tryd.func55, Tryd.ntmps55
  go_wp2
  go_loopg [5, 7, 11] l.length (fun gg s5 _ s11 wr => ∃ kk : Nat, kk ≤ l.length ∧ l.length - kk ≤ gg ∧ s11 = .int .i64 kk ∧ Hid (wr.ownsRow w.heap.size 9 1 s5 (digs (l.take kk)).length (encs Value.string (digs (l.take kk)))) ∧ Hid (Below w.heap.size w wr))
  case atStart => exact ⟨0, Nat.zero_le _, by omega, rfl, Lib.hid (own_empty9 w), Lib.hid (below_alloc (Below.refl _ _) _)⟩
  case round =>
    obtain ⟨kk, hkk, hg, rfl, HO, HB1⟩ := hrel
    by_cases hlt : kk < l.length
    · obtain ⟨ad, rfl, hcell⟩ := (HR.out.below HB1.out).at_ (kk : Int) (by omega) (by omega)
      have hrd : rd l (kk : Int) = l[kk] := by unfold rd; simp [hlt]
      rw [hrd] at hcell
      rw [show ((kk : Int)).toNat = kk from rfl] at hcell
      have hn0 := HNN.out kk hlt
      have HS := Lib.hid (digs_snoc l kk hlt)
      obtain ⟨m, hm⟩ : ∃ m : Nat, l[kk] = (m : Int) := ⟨(l[kk]).toNat, by omega⟩
      rw [hm] at hcell hn0 HS
      rw [Int.toNat_natCast] at HS
      have HIT := Lib.hid (fun W hW => itoa_calls m (by omega) W hW)
      have HLEN := Lib.hid (show ((digs (l.take kk)).length + 1) * 16 ≤ 140737488355328 by rw [digs_len, List.length_take]; have := HL.out; omega)
      clear hrd hm hn0
      go_wp2_with (first | (go_at_call 88; refine (HIT.out _ (HT.out.below HB1.out)).mono ?_; rintro e w1 ⟨rfl, hb⟩; have n2_ := Lib.hid (below_step HB1.out hb); have n3_ := Lib.hid (show w1.ownsRow w.heap.size 9 1 u5 (digs (l.take kk)).length (encs Value.string (digs (l.take kk))) from own_kept HO.out hb); clear HB1; have HB1 := n2_; clear HO; have HO := n3_; clear n2_ n3_ hb) | ((with_reducible refine gate_builtin (b := .append) (xs := #[.tmp 15, .tmp 18]) rfl ?_); at_builtin; refine print_append_of (w0 := w) Value.string w.heap.size rfl (.tmp 15) (.tmp 18) 93 9 (.string ⟨#[]⟩) 16 rfl Tryd.underlying93 infoS rfl (by decide) u5 (digs (l.take kk)) ⟨(Lib.decDigits m).toArray⟩ rfl rfl rfl HO.out HB1.out HB1.out.size HLEN.out ?_; intro v5 w5 ho hb hg2 hat; have n0_ := Lib.hid hb; have n1_ := Lib.hid ho; clear HB1; clear HO; have HB1 := n0_; have HO := n1_; clear n0_ n1_; clear ho hb hg2 hat))
      have hwk : wrap64 ((kk : Int) + 1) = ((kk + 1 : Nat) : Int) := by have := HL.out; unfold wrap64; omega
      rw [← HS.out] at HO
      go_roundg (l.length - (kk + 1))
      case measure => omega
      case rel => exact ⟨kk + 1, by omega, by omega, by first | rw [hwk] | (simp only [hwk]; done) | go_num, HO, HB1⟩
    · have hkn : kk = l.length := by omega
      subst hkn
      clear hlt hkk hg
      have hall : l.take l.length = l := List.take_length
      rw [hall] at HO
      have HJC := Lib.hid (fun W (hW : W.ownsRow w.heap.size 9 1 u5 (digs l).length (encs Value.string (digs l))) => join_calls u5 (digs l) sep W hW (by rw [digs_len]; have := HL.out; omega) (by rw [digs_join]; exact HJ.out))
      rw [digs_join] at HJC
      go_wp2_with (first | (go_at_call 89; refine (HJC.out _ HO.out).mono ?_; rintro e w1 ⟨rfl, hb⟩; have HB2 := Lib.hid (below_step HB1.out hb); clear hb))
      go_ret
      exact ⟨rfl, HB2.out⟩
end Go.Proofs.YtbgmhdlmhncdcaaDoor.Hand
