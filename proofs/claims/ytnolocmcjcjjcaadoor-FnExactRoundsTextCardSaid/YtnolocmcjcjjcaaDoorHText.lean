/- The program's numbersText joins decimal numerals with a sign between; no conditions beyond those stated. -/
import Derived.Test.YtnolocmcjcjjcaaDoorHShelf
import Derived.Lib.SliceRun
import Derived.Lib.LaidTab
import Derived.Lib.SmallJoins
import Derived.Lib.AppendIntMem
import Derived.WalkKit
import Derived.KernelRfl
import Derived.Deep.LoopGhost
import Derived.Lib.Hide
import Derived.Deep.Draws
import Derived.Laws.AppendOwn
import Derived.Test.YtnolocmcjcjjcaaDoorWWords
import Derived.Test.YtnolocmcjcjjcaaDoorWMore
import Derived.Test.YtnolocmcjcjjcaaDoorHRd
namespace Go.Proofs.YtnolocmcjcjjcaaDoor.Hand
open Go Go.Proofs Go.RowKit Go.Shelf Go.Lib Go.Proofs.YtnolocmcjcjjcaaDoorW.PrintWords Go.Proofs.YtnolocmcjcjjcaaDoorW.PrintMore
set_option maxRecDepth 100000
set_option linter.unusedVariables false

theorem bcell {W w1 : World} (hb : Below W.heap.size W w1) : (∀ b o, b < W.heap.size → w1.cell? ⟨b, o, none⟩ = W.cell? ⟨b, o, none⟩) ∧ (∀ b o, b < W.heap.size → w1.frozen? ⟨b, o, none⟩ = W.frozen? ⟨b, o, none⟩) :=
  ⟨fun b o h => hb.cell (p := ⟨b, o, none⟩) h, fun b o h => hb.frozen (p := ⟨b, o, none⟩) h⟩
theorem infoI : (Tryd.prog.info? 3).map (fun i => (i.zero, i.size, i.bytes)) = some (some (.int .i64 0), 1, 8) := by kernel_rfl
theorem infoS : (Tryd.prog.info? 9).map (fun i => (i.zero, i.size, i.bytes)) = some (some (.string ⟨#[]⟩), 1, 16) := by kernel_rfl
theorem addq (b o n : Nat) : (⟨b, o, none⟩ : Addr).add n = ⟨b, o + n, none⟩ := by unfold Addr.add; split <;> simp_all
def inn (a b c : Int) : Bool := decide (b ≤ a) && decide (a ≤ c)
theorem inn_nat {a b c : Int} (h : inn a b c = true) (hb : 0 ≤ b) : ∃ n : Nat, a = n ∧ b ≤ n ∧ (n : Int) ≤ c := by
  unfold inn at h; simp at h; exact ⟨a.toNat, by omega, by omega, by omega⟩
theorem within_all (a b c : Int) (w : World) : Calls Tryd.prog 22 #[.int .i64 a, .int .i64 b, .int .i64 c] w fun r w' => r = .returned (.bool (inn a b c)) ∧ w = w' := by
  unfold inn
  by_cases h1 : b ≤ a
  · by_cases h2 : a ≤ c
    · go_enter Tryd.func22, Tryd.ntmps22
      go_wp2
      go_ret
      exact ⟨by simp [h1, h2], rfl⟩
    · have h3 : decide (a ≤ c) = false := by simpa using h2
      clear h2
      go_enter Tryd.func22, Tryd.ntmps22
      go_wp2
      go_ret
      exact ⟨by simp [h1, h3], rfl⟩
  · have h2 : decide (b ≤ a) = false := by simpa using h1
    clear h1
    go_enter Tryd.func22, Tryd.ntmps22
    go_wp2
    go_ret
    exact ⟨by simp [h2], rfl⟩

/-- The library's table of powers lies as its text lays it. -/
def Tab10 (w : World) : Prop := Lib.TabIs Tryd.prog w "internal/strconv.uint64pow10" .u64 Lib.pow10Tab
theorem g10 : ∃ g, Tryd.prog.globalNamed "internal/strconv.uint64pow10" = some g := Option.isSome_iff_exists.1 (by kernel_rfl)
theorem Tab10.below {w w' : World} (h : Tab10 w) (hb : Below w.heap.size w w') : Tab10 w' := by
  obtain ⟨g, hg⟩ := g10
  exact Go.Joins.tab_stays hg h hb (Nat.le_refl _)
theorem itoa_calls (n : Nat) (hn : n ≤ 4611686018427387904) (w : World) (h : Tab10 w) :
    Calls Tryd.prog 30 #[.int .i64 n] w fun e w' => e = .returned (.string ⟨(Lib.decDigits n).toArray⟩) ∧ Below w.heap.size w w' := by
  refine (Tryd.strconv_Itoa n (by omega) (by omega) w h).mono ?_
  rintro e w' ⟨rfl, k, os, rfl⟩
  refine ⟨?_, below_grow _ w (Nat.le_refl _) k os⟩
  unfold Lib.itoa
  rw [if_neg (by omega), Int.toNat_natCast]

/-- The numerals of a row's numbers. -/
def digs (l : List Int) : List ByteArray := l.map fun n => ⟨(Lib.decDigits n.toNat).toArray⟩
theorem digs_snoc (l : List Int) (kk : Nat) (h : kk < l.length) : digs (l.take (kk + 1)) = digs (l.take kk) ++ [⟨(Lib.decDigits (l[kk]).toNat).toArray⟩] := by
  unfold digs; rw [List.take_succ_eq_append_getElem h, List.map_append]; rfl
theorem digs_len (l : List Int) : (digs l).length = l.length := by unfold digs; simp
def numsT (l : List Int) (sep : List UInt8) : List UInt8 := Lib.join (l.map fun n => Lib.decDigits n.toNat) sep
theorem digs_join (l : List Int) (sep : List UInt8) : Lib.join ((digs l).map (·.data.toList)) sep = numsT l sep := by
  unfold digs numsT; rw [List.map_map]; rfl
theorem own_cells {w : World} {base : Nat} {e : TypeId} {v : Value} {n : Nat} {xs : List Value} (h : w.ownsRow base e 1 v n xs) (h0 : 0 < n) :
    ∃ g cap, v = .slice (some ⟨g, 0, none⟩) n cap ∧ n ≤ cap ∧ g < w.heap.size ∧ ∀ (j : Nat) (x : Value), xs[j]? = some x → w.cell? ⟨g, 0 + j, none⟩ = some x := by
  obtain ⟨h1, h2⟩ := h
  rcases h2 with ⟨_, h2⟩ | ⟨g, cap, cur, rfl, hb, hh, hn, hm, hs, ht⟩
  · omega
  · refine ⟨g, cap, rfl, hn, (Array.getElem?_eq_some_iff.1 hh).1, fun j x hx => ?_⟩
    have hj : j < xs.length := (List.getElem?_eq_some_iff.1 hx).1
    have h3 : cur[j]? = some x := by
      rw [← ht, List.getElem?_take] at hx
      split at hx
      · simpa using hx
      · cases hx
    unfold World.cell?
    rw [hh]
    simp [h3]
theorem own_empty9 (w : World) : (w.alloc (.cells #[] 9)).ownsRow w.heap.size 9 1 (.slice (some ⟨w.heap.size, 0, none⟩) 0 0) 0 [] :=
  ⟨rfl, .inr ⟨w.heap.size, 0, #[], rfl, Nat.le_refl _, Array.getElem?_push_size (xs := w.heap) (x := Obj.cells #[] 9), Nat.le_refl _, Nat.zero_le _, rfl, rfl⟩⟩
theorem own_nil_form {w : World} {base : Nat} {e : TypeId} {v : Value} (h : w.ownsRow base e 1 v 0 []) : ∃ A c, v = .slice A 0 c := by
  obtain ⟨h1, h2⟩ := h
  rcases h2 with ⟨rfl, _⟩ | ⟨g, cap, cur, rfl, _⟩
  · exact ⟨_, _, rfl⟩
  · exact ⟨_, _, rfl⟩
theorem own_kept {w w1 : World} {base : Nat} {e : TypeId} {size n : Nat} {v : Value} {xs : List Value} (h : w.ownsRow base e size v n xs) (hb : Below w.heap.size w w1) : w1.ownsRow base e size v n xs := by
  obtain ⟨h1, h2⟩ := h
  refine ⟨h1, ?_⟩
  rcases h2 with h2 | ⟨g, cap, cur, h3, h4, h5, h6⟩
  · exact .inl h2
  · exact .inr ⟨g, cap, cur, h3, h4, (hb.block g (Array.getElem?_eq_some_iff.1 h5).1).trans h5, h6⟩
theorem join_calls {base : Nat} (v : Value) (xs : List ByteArray) (sep : ByteArray) (w : World) (h : w.ownsRow base 9 1 v xs.length (encs Value.string xs)) (hN : xs.length ≤ 140737488355328) (hj : (Lib.join (xs.map (·.data.toList)) sep.data.toList).length ≤ 140737488355328) :
    Calls Tryd.prog 27 #[v, .string sep] w fun e w' => e = .returned (.string ⟨(Lib.join (xs.map (·.data.toList)) sep.data.toList).toArray⟩) ∧ Below w.heap.size w w' := by
  by_cases h0 : xs.length = 0
  · obtain rfl := List.length_eq_zero_iff.1 h0
    obtain ⟨A, c, rfl⟩ := own_nil_form h
    refine (Tryd.strings_Join_none A c sep w).mono ?_
    rintro e w' ⟨rfl, rfl⟩
    exact ⟨rfl, Below.refl _ _⟩
  · obtain ⟨g, cap, rfl, hn, hg, hc⟩ := own_cells h (by omega)
    refine Tryd.strings_Join g 0 cap xs sep w (fun j x hx => hc j _ ?_) hg hN hn hj
    show (xs.map Value.string)[j]? = _
    rw [List.getElem?_map, hx]; rfl
set_option maxHeartbeats 4000000 in
theorem numbersText_calls (A : Option Addr) (c : Nat) (l : List Int) (sep : ByteArray) (w : World) (h : ReadsInt w .i64 A l.length l) (hl : l.length ≤ 1000000) (hnn : ∀ (j : Nat) (h : j < l.length), 0 ≤ l[j] ∧ l[j] ≤ 1000000)
    (hj : (numsT l sep.data.toList).length ≤ 140737488355328) (ht : Tab10 w) :
    Calls Tryd.prog 26 #[.slice A l.length c, .string sep] w fun e w' => e = .returned (.string ⟨(numsT l sep.data.toList).toArray⟩) ∧ Below w.heap.size w w' := by
  have HR := Lib.hid h
  have HL := Lib.hid hl
  have HNN := Lib.hid hnn
  have HJ := Lib.hid hj
  have HT := Lib.hid ht
  clear h hl hnn hj ht
  go_enter Tryd.func26, Tryd.ntmps26
  go_wp2
  go_loopg [5, 7, 11] l.length (fun gg s5 _ s11 wr => ∃ kk : Nat, kk ≤ l.length ∧ l.length - kk ≤ gg ∧ s11 = .int .i64 kk ∧ Hid (wr.ownsRow w.heap.size 9 1 s5 (digs (l.take kk)).length (encs Value.string (digs (l.take kk)))) ∧ Hid (Below w.heap.size w wr))
  case atStart => exact ⟨0, Nat.zero_le _, by omega, rfl, Lib.hid (own_empty9 w), Lib.hid (below_alloc (Below.refl _ _) _)⟩
  case round =>
    obtain ⟨kk, hkk, hg, rfl, HO, HB1⟩ := hrel
    by_cases hlt : kk < l.length
    · obtain ⟨ad, rfl, hcell⟩ := (HR.out.below HB1.out).at_ (kk : Int) (by omega) (by omega)
      have hrd : rd l (kk : Int) = l[kk] := by unfold rd; simp [hlt]
      rw [hrd] at hcell
      rw [show ((kk : Int)).toNat = kk from rfl] at hcell
      have hn0 := HNN.out kk hlt
      have HS := Lib.hid (digs_snoc l kk hlt)
      obtain ⟨m, hm⟩ : ∃ m : Nat, l[kk] = (m : Int) := ⟨(l[kk]).toNat, by omega⟩
      rw [hm] at hcell hn0 HS
      rw [Int.toNat_natCast] at HS
      have HIT := Lib.hid (fun W hW => itoa_calls m (by omega) W hW)
      have HLEN := Lib.hid (show ((digs (l.take kk)).length + 1) * 16 ≤ 140737488355328 by rw [digs_len, List.length_take]; have := HL.out; omega)
      clear hrd hm hn0
      go_wp2_with (first | (go_at_call 30; refine (HIT.out _ (HT.out.below HB1.out)).mono ?_; rintro e w1 ⟨rfl, hb⟩; have n2_ := Lib.hid (below_step HB1.out hb); have n3_ := Lib.hid (show w1.ownsRow w.heap.size 9 1 u5 (digs (l.take kk)).length (encs Value.string (digs (l.take kk))) from own_kept HO.out hb); clear HB1; have HB1 := n2_; clear HO; have HO := n3_; clear n2_ n3_ hb) | ((with_reducible refine gate_builtin (b := .append) (xs := #[.tmp 15, .tmp 18]) rfl ?_); at_builtin; refine print_append_of (w0 := w) Value.string w.heap.size rfl (.tmp 15) (.tmp 18) 43 9 (.string ⟨#[]⟩) 16 rfl Tryd.underlying43 infoS rfl (by decide) u5 (digs (l.take kk)) ⟨(Lib.decDigits m).toArray⟩ rfl rfl rfl HO.out HB1.out HB1.out.size HLEN.out ?_; intro v5 w5 ho hb hg2 hat; have n0_ := Lib.hid hb; have n1_ := Lib.hid ho; clear HB1; clear HO; have HB1 := n0_; have HO := n1_; clear n0_ n1_; clear ho hb hg2 hat))
      have hwk : wrap64 ((kk : Int) + 1) = ((kk + 1 : Nat) : Int) := by have := HL.out; unfold wrap64; omega
      rw [← HS.out] at HO
      go_roundg (l.length - (kk + 1))
      case measure => omega
      case rel => exact ⟨kk + 1, by omega, by omega, by first | rw [hwk] | (simp only [hwk]; done) | go_num, HO, HB1⟩
    · have hkn : kk = l.length := by omega
      subst hkn
      clear hlt hkk hg
      have hall : l.take l.length = l := List.take_length
      rw [hall] at HO
      have HJC := Lib.hid (fun W (hW : W.ownsRow w.heap.size 9 1 u5 (digs l).length (encs Value.string (digs l))) => join_calls u5 (digs l) sep W hW (by rw [digs_len]; have := HL.out; omega) (by rw [digs_join]; exact HJ.out))
      rw [digs_join] at HJC
      go_wp2_with (first | (go_at_call 27; refine (HJC.out _ HO.out).mono ?_; rintro e w1 ⟨rfl, hb⟩; have HB2 := Lib.hid (below_step HB1.out hb); clear hb))
      go_ret
      exact ⟨rfl, HB2.out⟩

/-- The words of rounds. -/
def rword (x : List Int) : List UInt8 := if x.length = 0 then [61] else numsT x [43]
def rwords (ls : List (List Int)) : List ByteArray := ls.map fun x => ⟨(rword x).toArray⟩
theorem rwords_snoc (ls : List (List Int)) (kk : Nat) (h : kk < ls.length) : rwords (ls.take (kk + 1)) = rwords (ls.take kk) ++ [⟨(rword ls[kk]).toArray⟩] := by
  unfold rwords; rw [List.take_succ_eq_append_getElem h, List.map_append]; rfl
theorem rwords_len (ls : List (List Int)) : (rwords ls).length = ls.length := by unfold rwords; simp
def rtext (ls : List (List Int)) : List UInt8 := Lib.join (ls.map rword) [47]
theorem rwords_join (ls : List (List Int)) : Lib.join ((rwords ls).map (·.data.toList)) [47] = rtext ls := by
  unfold rwords rtext; rw [List.map_map]; rfl
theorem reads_of {w : World} {A : Option Addr} {n : Nat} {xs : List Int} (h : Kd.C (Kd.int .i64) w A n xs) : ReadsInt w .i64 A n xs := Kd.reads_of_C (enc := Value.int .i64) (d := (0 : Int)) (h1 := fun _ => rfl) h
set_option maxHeartbeats 4000000 in
theorem roundsText_calls (A : Option Addr) (c : Nat) (ls : List (List Int)) (w : World) (h : Kd.C (Kd.slice 3 (Kd.int .i64)) w A ls.length ls) (hl : ls.length ≤ 1000000) (hls : ∀ x ∈ ls, x.length ≤ 1000000) (hnn : ∀ x ∈ ls, ∀ n ∈ x, 0 ≤ n ∧ n ≤ 1000000)
    (hjs : ∀ x ∈ ls, (numsT x [43]).length ≤ 140737488355328) (hj : (rtext ls).length ≤ 140737488355328) (ht : Tab10 w) :
    Calls Tryd.prog 15 #[.slice A ls.length c] w fun e w' => e = .returned (.string ⟨(rtext ls).toArray⟩) ∧ Below w.heap.size w w' := by
  have HR := Lib.hid h
  have HL := Lib.hid hl
  have HLS := Lib.hid hls
  have HNN := Lib.hid hnn
  have HJS := Lib.hid hjs
  have HJ := Lib.hid hj
  have HT := Lib.hid ht
  clear h hl hls hnn hjs hj ht
  go_enter Tryd.func15, Tryd.ntmps15
  go_wp2
  go_loopg [3, 5, 9] ls.length (fun gg s3 _ s9 wr => ∃ kk : Nat, kk ≤ ls.length ∧ ls.length - kk ≤ gg ∧ s9 = .int .i64 kk ∧ Hid (wr.ownsRow w.heap.size 9 1 s3 (rwords (ls.take kk)).length (encs Value.string (rwords (ls.take kk)))) ∧ Hid (Below w.heap.size w wr))
  case atStart => exact ⟨0, Nat.zero_le _, by omega, rfl, Lib.hid (own_empty9 w), Lib.hid (below_alloc (Below.refl _ _) _)⟩
  case round =>
    obtain ⟨kk, hkk, hg, rfl, HO, HB1⟩ := hrel
    by_cases hlt : kk < ls.length
    · obtain ⟨ad, A0, c0, rfl, hcell, _, hrow⟩ := Rd.row_cell (Kd.C_below HR.out HB1.out) kk hlt
      have hmem := List.getElem_mem hlt
      have HROW := Lib.hid (reads_of hrow)
      have HS := Lib.hid (rwords_snoc ls kk hlt)
      have HLEN := Lib.hid (show ((rwords (ls.take kk)).length + 1) * 16 ≤ 140737488355328 by rw [rwords_len, List.length_take]; have := HL.out; omega)
      have hwk : wrap64 ((kk : Int) + 1) = ((kk + 1 : Nat) : Int) := by have := HL.out; unfold wrap64; omega
      by_cases h0 : ls[kk].length = 0
      · have hz : ((ls[kk].length : Int) == 0) = true := by rw [h0]; rfl
        have hz2 : (ls[kk].length : Int) = 0 := by rw [h0]; rfl
        have hwd : rword ls[kk] = [61] := if_pos h0
        rw [hwd] at HS
        clear hrow HROW hwd
        go_wp2_with ((with_reducible refine gate_builtin (b := .append) (xs := #[.tmp 16, .tmp 17]) rfl ?_); at_builtin; refine print_append_of (w0 := w) Value.string w.heap.size rfl (.tmp 16) (.tmp 17) 43 9 (.string ⟨#[]⟩) 16 rfl Tryd.underlying43 infoS rfl (by decide) u3 (rwords (ls.take kk)) ⟨[61].toArray⟩ rfl rfl rfl HO.out HB1.out HB1.out.size HLEN.out ?_; intro v5 w5 ho hb hg2 hat; have n0_ := Lib.hid hb; have n1_ := Lib.hid ho; clear HB1; clear HO; have HB1 := n0_; have HO := n1_; clear n0_ n1_; clear ho hb hg2 hat)
        rw [← HS.out] at HO
        go_roundg (ls.length - (kk + 1))
        case measure => omega
        case rel => exact ⟨kk + 1, by omega, by omega, by first | rw [hwk] | (simp only [hwk]; done) | go_num, HO, HB1⟩
      · have hz : ((ls[kk].length : Int) == 0) = false := by simpa using h0
        have hz2 : ¬ (ls[kk].length : Int) = 0 := by omega
        have hwd : rword ls[kk] = numsT ls[kk] [43] := if_neg h0
        rw [hwd] at HS
        have HN := Lib.hid (fun W (hR : ReadsInt W .i64 A0 ls[kk].length ls[kk]) hT => numbersText_calls A0 c0 ls[kk] ⟨#[43]⟩ W hR (HLS.out _ hmem) (fun j hj => HNN.out _ hmem _ (List.getElem_mem hj)) (HJS.out _ hmem) hT)
        clear hrow hwd hmem
        go_wp2_with (first | (go_at_call 26; refine (HN.out _ HROW.out (HT.out.below HB1.out)).mono ?_; rintro e w1 ⟨rfl, hb⟩; have n2_ := Lib.hid (below_step HB1.out hb); have n3_ := Lib.hid (show w1.ownsRow w.heap.size 9 1 u3 (rwords (ls.take kk)).length (encs Value.string (rwords (ls.take kk))) from own_kept HO.out hb); clear HB1; have HB1 := n2_; clear HO; have HO := n3_; clear n2_ n3_ hb) | ((with_reducible refine gate_builtin (b := .append) (xs := #[.tmp 19, .tmp 22]) rfl ?_); at_builtin; refine print_append_of (w0 := w) Value.string w.heap.size rfl (.tmp 19) (.tmp 22) 43 9 (.string ⟨#[]⟩) 16 rfl Tryd.underlying43 infoS rfl (by decide) u3 (rwords (ls.take kk)) ⟨(numsT ls[kk] [43]).toArray⟩ rfl rfl rfl HO.out HB1.out HB1.out.size HLEN.out ?_; intro v5 w5 ho hb hg2 hat; have n0_ := Lib.hid hb; have n1_ := Lib.hid ho; clear HB1; clear HO; have HB1 := n0_; have HO := n1_; clear n0_ n1_; clear ho hb hg2 hat))
        rw [← HS.out] at HO
        go_roundg (ls.length - (kk + 1))
        case measure => omega
        case rel => exact ⟨kk + 1, by omega, by omega, by first | rw [hwk] | (simp only [hwk]; done) | go_num, HO, HB1⟩
    · have hkn : kk = ls.length := by omega
      subst hkn
      clear hlt hkk hg
      have hall : ls.take ls.length = ls := List.take_length
      rw [hall] at HO
      have HJC := Lib.hid (fun W (hW : W.ownsRow w.heap.size 9 1 u3 (rwords ls).length (encs Value.string (rwords ls))) => join_calls u3 (rwords ls) ⟨#[47]⟩ W hW (by rw [rwords_len]; have := HL.out; omega) (by rw [show (⟨#[47]⟩ : ByteArray).data.toList = [47] from rfl, rwords_join]; exact HJ.out))
      rw [show (⟨#[47]⟩ : ByteArray).data.toList = [47] from rfl, rwords_join] at HJC
      go_wp2_with (first | (go_at_call 27; refine (HJC.out _ HO.out).mono ?_; rintro e w1 ⟨rfl, hb⟩; have HB2 := Lib.hid (below_step HB1.out hb); clear hb))
      go_ret
      exact ⟨rfl, HB2.out⟩
end Go.Proofs.YtnolocmcjcjjcaaDoor.Hand
namespace Go.Proofs.YtnolocmcjcjjcaaDoor.Rd
theorem told_parts {h fl : Int} {ls : List (List Int)} (ht : told h fl ls = true) : (1 ≤ h ∧ h ≤ 10) ∧ (0 ≤ fl ∧ fl ≤ 1000) ∧ ls.length ≤ 20 ∧ ∀ x ∈ ls, (x.length : Int) ≤ h ∧ rising fl x = true := by
  unfold told inn at ht
  simp only [Bool.and_eq_true, decide_eq_true_eq, Bool.not_eq_true', List.any_eq_false] at ht
  obtain ⟨h1, h2, h3, h4⟩ := ht
  refine ⟨h1, h2, h3, fun x hx => ?_⟩
  have h5 := h4 x hx
  unfold bad at h5
  rw [Bool.or_eq_true, decide_eq_true_eq, Bool.not_eq_true'] at h5
  refine ⟨by omega, ?_⟩
  cases hr : rising fl x with
  | true => rfl
  | false => exact absurd (Or.inr hr) h5
theorem rising_floor {fl : Int} {l : List Int} (h : rising fl l = true) : ∀ x ∈ l, 1 ≤ x ∧ x ≤ fl := by
  intro x hx
  obtain ⟨i, hi, rfl⟩ := List.getElem_of_mem hx
  unfold rising at h
  rw [List.all_eq_true] at h
  have h1 := h i (by rw [List.mem_range'_1]; omega)
  unfold okAt inn at h1
  rw [getD_at l i hi] at h1
  simp only [Bool.and_eq_true, decide_eq_true_eq] at h1
  exact h1.1
end Go.Proofs.YtnolocmcjcjjcaaDoor.Rd
