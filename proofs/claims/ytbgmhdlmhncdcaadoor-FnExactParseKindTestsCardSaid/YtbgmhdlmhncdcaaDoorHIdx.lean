/- strings.IndexAny finds the first of the two signs in whatever text; no conditions beyond the text's length. -/
import Derived.Test.YtbgmhdlmhncdcaaDoorHShelfA
import Derived.Test.YtbgmhdlmhncdcaaDoorHParse
import Derived.Laws.RangeAny
import Derived.Laws.Cover4
import Derived.Lib.DecodeN
import Derived.BigQuiet
import Derived.Lib.OthersKept
import Derived.Test.YtbgmhdlmhncdcaaDoorWLast
namespace Go.Proofs.YtbgmhdlmhncdcaaDoor.Hand
open Go Go.Proofs Go.RowKit Go.Shelf Go.Lib Go.Proofs.YtbgmhdlmhncdcaaDoorW.PrintWords Go.Proofs.YtbgmhdlmhncdcaaDoorW.PrintMore Go.Proofs.YtbgmhdlmhncdcaaDoorW.PrintLast
set_option maxRecDepth 100000
set_option linter.unusedVariables false
/-- The two signs. -/
def signs : ByteArray := ⟨#[33, 46]⟩
theorem signs_size : signs.size = 2 := rfl
theorem signs_byte (i : Nat) (h : i < signs.size) : (signs[i]'h).toNat < 128 := by
  match i, h with
  | 0, _ => show (33 : UInt8).toNat < 128; decide
  | 1, _ => show (46 : UInt8).toNat < 128; decide
set_option maxHeartbeats 4000000 in
theorem indexRune_none (w : World) : Calls Tryd.prog 104 #[.string signs, .int .i32 65533] w fun e w' => e = .returned (.int .i64 (-1)) ∧ Below w.heap.size w w' := by
  have hb := signs_byte
  generalize signs = s at *
  go_enter Tryd.func104, Tryd.ntmps104
  go_wp2
  go_loopg [5, 6] s.size (fun g _ _ wx => ∃ i : Nat, i + g = s.size ∧ wx = w.iter s i)
  case atStart => exact ⟨0, by omega, rfl⟩
  case round =>
    obtain ⟨i, hig, rfl⟩ := hrel
    cases gk with
    | zero =>
      obtain rfl : i = s.size := by omega
      have hnx := run_next_end (P := Tryd.prog) w s s.size
      go_wp2
      go_ret
      exact ⟨rfl, (Below.refl _ _).alloc (Nat.le_refl _) _⟩
    | succ g =>
      have hi : i < s.size := by omega
      obtain ⟨x, hx⟩ : ∃ x : UInt8, s[i]'hi = x := ⟨_, rfl⟩
      have hx128 : x.toNat < 128 := by rw [← hx]; exact hb i hi
      have hnx := fun ty => run_next_ascii (P := Tryd.prog) w s i ty hi (by rw [hx]; exact hx128)
      rw [hx] at hnx
      have hne : (((x.toNat : Nat) : Int) == 65533) = false := beq_eq_false_iff_ne.2 (by omega)
      clear hx hb
      go_wp2
      go_roundg g
      case measure => omega
      case rel => exact ⟨i + 1, by omega, rfl⟩
theorem encode_facts (r : Nat) (h : 128 ≤ r) (hv : r < 55296 ∨ 57344 ≤ r) (h4 : r ≤ 1114111) : 2 ≤ (Utf8.encode (r : Int)).size ∧ (Utf8.encode (r : Int)).size ≤ 4 ∧ ((Utf8.encode (r : Int)).size = 2 → 128 ≤ ((Utf8.encode (r : Int)).get! 1).toNat) := by
  have v : Utf8.valid (r : Int) = true := by simp [Utf8.valid]; omega
  have c1 : ¬ r < 128 := by omega
  by_cases c2 : r < 2048
  · have e : Utf8.encode (r : Int) = ⟨#[UInt8.ofNat (192 + r / 64), UInt8.ofNat (128 + r % 64)]⟩ := by simp [Utf8.encode, v, c1, c2]
    rw [e]
    refine ⟨Nat.le_refl 2, by show 2 ≤ 4; omega, fun _ => ?_⟩
    show 128 ≤ (UInt8.ofNat (128 + r % 64)).toNat
    rw [UInt8.toNat_ofNat']
    omega
  · by_cases c3 : r < 65536
    · have e : Utf8.encode (r : Int) = ⟨#[UInt8.ofNat (224 + r / 4096), UInt8.ofNat (128 + r / 64 % 64), UInt8.ofNat (128 + r % 64)]⟩ := by simp [Utf8.encode, v, c1, c2, c3]
      rw [e]
      exact ⟨by show 2 ≤ 3; omega, by show 3 ≤ 4; omega, fun h => by cases h⟩
    · have e : Utf8.encode (r : Int) = ⟨#[UInt8.ofNat (240 + r / 262144), UInt8.ofNat (128 + r / 4096 % 64), UInt8.ofNat (128 + r / 64 % 64), UInt8.ofNat (128 + r % 64)]⟩ := by simp [Utf8.encode, v, c1, c2, c3]
      rw [e]
      exact ⟨by show 2 ≤ 4; omega, Nat.le_refl 4, fun h => by cases h⟩
set_option maxHeartbeats 4000000 in
theorem indexRune_bad (r : Int) (h : 128 ≤ r) (hn : r ≠ 65533) (hv : Lib.validRune r = false) (w : World) : Calls Tryd.prog 104 #[.string signs, .int .i32 r] w fun e w' => e = .returned (.int .i64 (-1)) ∧ w' = w := by
  generalize signs = s
  have h1 : ¬ r < 128 := by omega
  have h2 : (r == 65533) = false := beq_eq_false_iff_ne.2 hn
  have h3 : (0 : Int) ≤ r := by omega
  go_enter Tryd.func104, Tryd.ntmps104
  go_wp2_with (first | (go_at_call 124; refine (Tryd.utf8_ValidRune _ _).mono ?_; rw [hv]; rintro e w' ⟨rfl, rfl⟩))
  go_ret
  exact ⟨rfl, rfl⟩
theorem empty_index (c : Int) (w : World) : Calls Tryd.prog 123 #[.string ByteArray.empty, .int .u8 c] w fun e w' => e = .returned (.int .i64 (-1)) ∧ w' = w :=
  Tryd.strings_IndexByte ByteArray.empty c w
set_option maxHeartbeats 4000000 in
theorem indexRune_far (r : Int) (h : 128 ≤ r) (hn : r ≠ 65533) (hv : Lib.validRune r = true) (w : World) : Calls Tryd.prog 104 #[.string signs, .int .i32 r] w fun e w' => e = .returned (.int .i64 (-1)) ∧ Below w.heap.size w w' := by
  have h1 : ¬ r < 128 := by omega
  have h2 : (r == 65533) = false := beq_eq_false_iff_ne.2 hn
  have h3 : (0 : Int) ≤ r := by omega
  obtain ⟨n, hrn⟩ := Int.eq_ofNat_of_zero_le h3
  have hv2 : (0 ≤ r ∧ r < 55296) ∨ (57343 < r ∧ r ≤ 1114111) := by
    have h4 := hv
    unfold Lib.validRune at h4
    exact of_decide_eq_true h4
  obtain ⟨f1, f2, f3⟩ := encode_facts n (by omega) (by omega) (by omega)
  rw [← hrn] at f1 f2 f3
  clear hrn hv2
  obtain ⟨m, hm⟩ : ∃ m, m = (Utf8.encode r).size - 1 := ⟨_, rfl⟩
  have hw : wrap64 (((Utf8.encode r).size : Int) - 1) = (m : Int) := by unfold wrap64; omega
  have hw1 : IntKind.i64.wrap (((Utf8.encode r).size : Int) - 1) = (m : Int) := (i64_w _).trans hw
  have F1 := Lib.hid f1
  have F2 := Lib.hid f2
  have F3 := Lib.hid f3
  have HM := Lib.hid hm
  clear f1 f2 f3 hm
  go_enter Tryd.func104, Tryd.ntmps104
  go_wp2_with (first | (go_at_call 124; refine (Tryd.utf8_ValidRune _ _).mono ?_; rw [hv]; rintro e w' ⟨rfl, hw_⟩; rw [hw_]))
  go_step3
  go_wp2
  by_cases c : m = 1
  · subst c
    have hs2 := signs_size
    have hb1 := signs_byte 1 (by decide)
    go_loopg [9, 10, 11, 12] 1 (fun g s9 s10 s11 s12 wx => s9 = .int .i64 ((1 : Nat) : Int) ∧ wx = w)
    case atStart => exact ⟨rfl, rfl⟩
    case round =>
      obtain ⟨rfl, rfl⟩ := hrel
      have hz1 : ((1 : Nat) : Int) < (signs.size : Int) := by rw [signs_size]; decide
      have hz2 : ((1 : Nat) : Int) < ((Utf8.encode r).size : Int) := by have := F1.out; omega
      have hz5 : (1 : Int) < (signs.size : Int) := by rw [signs_size]; decide
      have hz6 : (1 : Int) < ((Utf8.encode r).size : Int) := by have := F1.out; omega
      have hz7 : (2 : Int) ≤ (signs.size : Int) := by rw [signs_size]; decide
      have hz8 : wrap64 ((1 : Int) + 1) = 2 := by unfold wrap64; omega
      have hz3 : 1 < signs.size := by rw [signs_size]; decide
      have hz4 : 1 < (Utf8.encode r).size := by have := F1.out; omega
      have hne : (((signs[1]'hz3).toNat : Int) != (((Utf8.encode r)[1]'hz4).toNat : Int)) = true := by
        have h5 := F3.out (by have := HM.out; have := F1.out; omega)
        rw [show (1 : Nat) = 1 + 0 from rfl, get_at _ 1 hz4] at h5
        rw [bne_iff_ne]
        omega
      go_wp2
      go_step3
      go_wp2
      go_quiet (fail)
      go_wp2
      go_quiet (first | (go_at_call 123; refine (empty_index _ _).mono ?_; rintro e_ w_ ⟨rfl, hw_⟩; exact ⟨rfl, _, hw_⟩))
      go_wp2
      rw [Exit.noGoto_ret]
      try go_wp2
      try rw [Exit.noGoto_ret]
      try go_wp2
      go_ret
      exact ⟨rfl, pw_below_drewN (Below.refl _ _) _⟩
  · have hs2 := signs_size
    go_loopg [9, 10, 11, 12] 1 (fun g s9 s10 s11 s12 wx => s9 = .int .i64 (m : Int) ∧ wx = w)
    case atStart => exact ⟨rfl, rfl⟩
    case round =>
      obtain ⟨rfl, rfl⟩ := hrel
      have hge : ¬ (m : Int) < ((2 : Nat) : Int) := by have := F1.out; have := HM.out; omega
      go_wp2
      go_ret
      exact ⟨rfl, Below.refl _ _⟩
theorem get_in (s : ByteArray) (i : Nat) (h : i < s.size) : s.get! i = s[i]'h := get_at s i h
/-- A rune that does not begin with an ASCII byte takes bytes alone that are none. -/
theorem decode_run (s : ByteArray) (pos : Nat) (h : pos < s.size) (ha : 128 ≤ (s[pos]'h).toNat) : 1 ≤ (Utf8.decode s pos).2 ∧ pos + (Utf8.decode s pos).2 ≤ s.size ∧ ∀ k, k < (Utf8.decode s pos).2 → 128 ≤ (s.get! (pos + k)).toNat := by
  have h0 : 128 ≤ (s.get! pos).toNat := by rw [get_in s pos h]; exact ha
  rw [Lib.decode_at]
  unfold Lib.decodeN
  have k0 : ∀ k, k < 1 → 128 ≤ (s.get! (pos + k)).toNat := fun k hk => by obtain rfl : k = 0 := by omega
                                                                          exact h0
  have k1 : (s.get! (pos + 1)).toNat / 64 = 2 → ∀ k, k < 2 → 128 ≤ (s.get! (pos + k)).toNat := fun e k hk => by
    by_cases c : k = 1
    · subst c; omega
    · exact k0 k (by omega)
  have k2 : (s.get! (pos + 1)).toNat / 64 = 2 → (s.get! (pos + 2)).toNat / 64 = 2 → ∀ k, k < 3 → 128 ≤ (s.get! (pos + k)).toNat := fun e e2 k hk => by
    by_cases c : k = 2
    · subst c; omega
    · exact k1 e k (by omega)
  have k3 : (s.get! (pos + 1)).toNat / 64 = 2 → (s.get! (pos + 2)).toNat / 64 = 2 → (s.get! (pos + 3)).toNat / 64 = 2 → ∀ k, k < 4 → 128 ≤ (s.get! (pos + k)).toNat := fun e e2 e3 k hk => by
    by_cases c : k = 3
    · subst c; omega
    · exact k2 e e2 k (by omega)
  rw [if_neg (by omega)]
  split
  · rename_i h1
    split
    · exact ⟨by show 1 ≤ 2; omega, by show pos + 2 ≤ s.size; omega, k1 h1.2.2⟩
    · exact ⟨Nat.le_refl 1, by show pos + 1 ≤ s.size; omega, k0⟩
  · split
    · rename_i h1
      split
      · exact ⟨by show 1 ≤ 3; omega, by show pos + 3 ≤ s.size; omega, k2 h1.2.1.2 h1.2.2.2⟩
      · exact ⟨Nat.le_refl 1, by show pos + 1 ≤ s.size; omega, k0⟩
    · split
      · rename_i h1
        split
        · exact ⟨by show 1 ≤ 4; omega, by show pos + 4 ≤ s.size; omega, k3 h1.2.1.2 h1.2.2.1.2 h1.2.2.2.2⟩
        · exact ⟨Nat.le_refl 1, by show pos + 1 ≤ s.size; omega, k0⟩
      · exact ⟨Nat.le_refl 1, by show pos + 1 ≤ s.size; omega, k0⟩
def signsL : List UInt8 := [33, 46]
theorem signs_high (x : UInt8) (h : 128 ≤ x.toNat) : signsL.contains x = false := by
  unfold signsL
  rw [List.contains_cons, List.contains_cons, List.contains_nil, Bool.or_false, Bool.or_eq_false_iff, beq_eq_false_iff_ne, beq_eq_false_iff_ne]
  refine ⟨fun e => ?_, fun e => ?_⟩
  · rw [e] at h; exact absurd h (by decide)
  · rw [e] at h; exact absurd h (by decide)
theorem noAny_run (s : ByteArray) (i wd : Nat) (hno : Lib.NoAny s.data.toList signsL i) (hi : i + wd ≤ s.size) (h : ∀ k, k < wd → 128 ≤ (s.get! (i + k)).toNat) : Lib.NoAny s.data.toList signsL (i + wd) := by
  intro j b hj hb
  by_cases c : j < i
  · exact hno j b c hb
  · have hjs : j < s.size := by omega
    have h1 := h (j - i) (by omega)
    rw [show i + (j - i) = j by omega, get_in s j hjs] at h1
    have h2 := Lib.data_getElem? s j hjs
    rw [hb] at h2
    rw [Option.some.inj h2]
    exact signs_high _ h1
theorem indexRune_all (r : Int) (h : 0 ≤ r) (w : World) : Calls Tryd.prog 104 #[.string signs, .int .i32 r] w fun e w' => e = .returned (.int .i64 (if r < 128 then Lib.indexByte signsL r.toNat.toUInt8 else -1)) ∧ Below w.heap.size w w' := by
  by_cases c : r < 128
  · rw [if_pos c]
    refine (Tryd.strings_IndexRune_ascii signs r w h c).mono ?_
    rintro e w' ⟨he, rfl⟩
    exact ⟨he, Below.refl _ _⟩
  · rw [if_neg c]
    by_cases c2 : r = 65533
    · subst c2; exact indexRune_none w
    · cases hv : Lib.validRune r with
      | true => exact indexRune_far r (by omega) c2 hv w
      | false =>
        refine (indexRune_bad r (by omega) c2 hv w).mono ?_
        rintro e w' ⟨he, rfl⟩
        exact ⟨he, Below.refl _ _⟩
set_option maxHeartbeats 8000000 in
theorem indexAny_short (s : ByteArray) (w : World) (h8 : s.size ≤ 8) :
    Calls Tryd.prog 73 #[.string s, .string signs] w fun e w' => e = .returned (.int .i64 (Lib.indexAny s.data.toList signsL)) ∧ Below w.heap.size w w' := by
  have HR := Lib.hid (fun r h W => indexRune_all r h W)
  have hemp : signs.toList.isEmpty = false := by rw [Lib.toList_data]; rfl
  have hn1 : ((signs.size : Int) == 1) = false := by rw [signs_size]; rfl
  have h8z : decide ((8 : Int) < (s.size : Int)) = false := decide_eq_false (by omega)
  generalize signs = sg at *
  go_enter Tryd.func73, Tryd.ntmps73
  go_wp2_with (go_at_call 105; refine (Tryd.strings_shouldUseASCIISet _ _).mono ?_; rintro e w' ⟨rfl, hw⟩; rw [hw, h8z])
  go_loopg [9, 10] s.size (fun g _ _ wx => ∃ i : Nat, i ≤ s.size ∧ s.size - i ≤ g ∧ wx.heap[w.heap.size]? = some (.stringIter s i) ∧ Hid (Below w.heap.size w wx) ∧ Hid (Lib.NoAny s.data.toList signsL i))
  case atStart => exact ⟨0, Nat.zero_le _, by omega, World.iter_heap w s 0, Lib.hid (below_alloc (Below.refl _ _) _), Lib.hid (Lib.NoAny.zero _ _)⟩
  case round =>
    obtain ⟨i, hi, hg, hk, HB, HN⟩ := hrel
    by_cases hlt : i < s.size
    · obtain ⟨x, hx⟩ : ∃ x : UInt8, s[i]'hlt = x := ⟨_, rfl⟩
      have hxl : s.data.toList[i]? = some x := by rw [← hx]; exact Lib.data_getElem? s i hlt
      have hkz : w.heap.size < wr.heap.size := (Array.getElem?_eq_some_iff.1 hk).1
      by_cases hx128 : x.toNat < 128
      · have hnx := fun ty => run_next_ascii_at (P := Tryd.prog) wr w.heap.size s i ty hk hlt (by rw [hx]; exact hx128)
        rw [hx] at hnx
        have HB2 := Lib.hid (below_iterAt HB.out (Nat.le_refl w.heap.size) s (i + 1))
        have HK2 := Lib.hid (iterAt_heap wr w.heap.size s i (i + 1) hk)
        have HZ2 := Lib.hid (show w.heap.size < (wr.iterAt w.heap.size s (i + 1)).heap.size by rw [iterAt_size]; exact hkz)
        have hcon := Lib.contains_iff_indexByte signsL x
        have hback : ((x.toNat : Int)).toNat.toUInt8 = x := by simp
        have HX := Lib.hid hxl
        have HR2 := Lib.hid (fun W => HR.out (x.toNat : Int) (by omega) W)
        rw [if_pos (by omega), hback] at HR2
        clear hxl hx hk
        cases hin : signsL.contains x
        · rw [hin] at hcon
          have hl0 : ¬ ((0 : Int) ≤ Lib.indexByte signsL x) := of_decide_eq_false hcon.symm
          clear hcon
          go_wp2_with (go_at_call 104; refine (HR2.out _).mono ?_; rintro e w2 ⟨rfl, hb⟩)
          go_roundg (s.size - (i + 1))
          case measure => omega
          case rel => exact ⟨i + 1, by omega, by omega, (hb.block _ HZ2.out).trans HK2.out, Lib.hid (below_step HB2.out hb), Lib.hid (HN.out.succ HX.out hin)⟩
        · rw [hin] at hcon
          have hl0 : (0 : Int) ≤ Lib.indexByte signsL x := of_decide_eq_true hcon.symm
          clear hcon
          go_wp2_with (go_at_call 104; refine (HR2.out _).mono ?_; rintro e w2 ⟨rfl, hb⟩)
          go_ret
          exact ⟨by rw [Lib.indexAny_hit HN.out HX.out hin]; rfl, below_step HB2.out hb⟩
      · have hx1 : 128 ≤ (s[i]'hlt).toNat := by rw [hx]; omega
        obtain ⟨r1, r2, r3⟩ := decode_run s i hlt hx1
        have r0 := (decode_high s i hlt hx1).1
        have hnx := fun ty => run_next_any_at (P := Tryd.prog) wr w.heap.size s i ty hk hlt
        obtain ⟨c, hc⟩ : ∃ c, c = (Utf8.decode s i).1 := ⟨_, rfl⟩
        obtain ⟨wd, hwd⟩ : ∃ wd, wd = (Utf8.decode s i).2 := ⟨_, rfl⟩
        rw [← hc] at r0
        rw [← hwd] at r1 r2 r3
        rw [← hc, ← hwd] at hnx
        have HB2 := Lib.hid (below_iterAt HB.out (Nat.le_refl w.heap.size) s (i + wd))
        have HK2 := Lib.hid (iterAt_heap wr w.heap.size s i (i + wd) hk)
        have HZ2 := Lib.hid (show w.heap.size < (wr.iterAt w.heap.size s (i + wd)).heap.size by rw [iterAt_size]; exact hkz)
        have HN2 := Lib.hid (noAny_run s i wd HN.out r2 r3)
        have HR2 := Lib.hid (fun W => HR.out (c : Int) (by omega) W)
        rw [if_neg (by omega)] at HR2
        clear hxl hx hx1 hk r3 r0 hc hwd
        go_wp2_with (go_at_call 104; refine (HR2.out _).mono ?_; rintro e w2 ⟨rfl, hb⟩)
        go_roundg (s.size - (i + wd))
        case measure => omega
        case rel => exact ⟨i + wd, r2, by omega, (hb.block _ HZ2.out).trans HK2.out, Lib.hid (below_step HB2.out hb), HN2⟩
    · have hnx := fun ty => run_next_end_at (P := Tryd.prog) wr w.heap.size s i ty hk hlt
      go_wp2
      go_ret
      exact ⟨by rw [Lib.indexAny_none (by rw [← Lib.size_eq, show s.size = i by omega]; exact HN.out)]; rfl, HB.out⟩
theorem set_zero : (∀ w, (zeroValue 117).run Tryd.prog w = .ok (.agg (Array.replicate 256 (.bool false))) w) := (zero_of_info (P := Tryd.prog) (t := 117) (n := 256) (by kernel_rfl)).1
/-- strings.IndexAny at the two signs, in whatever text. -/
theorem indexAny_calls (s : ByteArray) (w : World) (hs : s.size ≤ 1000000) :
    Calls Tryd.prog 73 #[.string s, .string signs] w fun e w' => e = .returned (.int .i64 (Lib.indexAny s.data.toList signsL)) ∧ Below w.heap.size w w' := by
  by_cases h8 : s.size ≤ 8
  · exact indexAny_short s w h8
  · refine (Tryd.strings_IndexAny_long set_zero s signs w (Nat.le_refl 2) (by omega) (by omega) (by rw [signs_size]; decide) (fun j b hb => ?_)).mono ?_
    · match j, hb with
      | 0, hb => have e := Option.some.inj hb; rw [← e]; decide
      | 1, hb => have e := Option.some.inj hb; rw [← e]; decide
      | j + 2, hb => cases hb
    · rintro e w' ⟨he, rfl⟩
      exact ⟨he, below_alloc (below_alloc (Below.refl _ _) _) _⟩
end Go.Proofs.YtbgmhdlmhncdcaaDoor.Hand
