/- The program's readNumbers reads the words of a text that is cut at a sign; the listed variables of the library lie as its text lays them; no other conditions. -/
import Derived.Test.YtbgmhdlmhncdcaaDoorHParse
namespace Go.Proofs.YtbgmhdlmhncdcaaDoor.Hand
open Go Go.Proofs Go.RowKit Go.Shelf Go.Lib Go.Proofs.YtbgmhdlmhncdcaaDoorW.PrintWords Go.Proofs.YtbgmhdlmhncdcaaDoorW.PrintMore
set_option maxRecDepth 100000
set_option linter.unusedVariables false
theorem own_nilI (w : World) (base : Nat) : w.ownsRow base 3 1 (.slice none 0 0) 0 [] := ⟨rfl, .inl ⟨rfl, rfl⟩⟩
theorem str_eq (a : List UInt8) (s : ByteArray) (h : a = s.data.toList) : (⟨a.toArray⟩ : ByteArray) = s := by subst h; simp
set_option maxHeartbeats 4000000 in
theorem readNumbers_calls (s : ByteArray) (c : UInt8) (w : World) (hs : s.size ≤ 1000000) (hl : Laid w) :
    Calls Tryd.prog 77 #[.string s, .string ⟨#[c]⟩] w fun e w' => ∃ v, e = .returned (.tuple #[v, .bool (rnRes (cutAt c s.data.toList)).2]) ∧ w'.ownsRow w.heap.size 3 1 v (rnRes (cutAt c s.data.toList)).1.length (nums .i64 (rnRes (cutAt c s.data.toList)).1) ∧ Below w.heap.size w w' := by
  have HS := Lib.hid (fun W hW => split_calls s c W hs hW)
  have HT := Lib.hid hl
  have hcl := cutAt_le c s.data.toList
  have hcn := Lib.countB_le ⟨#[c]⟩ (one_size c) s.size s (Nat.le_refl _)
  have hlen : (cutAt c s.data.toList).length ≤ 1000001 := by
    rw [cutAt_len]
    have h1 : List.count c s.data.toList ≤ s.data.toList.length := List.count_le_length
    have h2 : s.data.toList.length = s.size := (Lib.size_eq s).symm
    omega
  have hsz : ∀ x ∈ cutAt c s.data.toList, x.length ≤ 1000000 := fun x hx => by
    have h1 := hcl x hx
    have h2 : s.data.toList.length = s.size := (Lib.size_eq s).symm
    omega
  clear hl hcl hcn hs
  generalize cutAt c s.data.toList = xs at *
  have HLEN := Lib.hid hlen
  have HSZ := Lib.hid hsz
  clear hlen hsz
  go_enter Tryd.func77, Tryd.ntmps77
  go_wp2_with (first | (go_at_call 110; refine (HS.out _ (HT.out.below (below_alloc (Below.refl _ _) _))).mono ?_; rintro e w1 ⟨G, ws, rfl, hws, hG, hA, hb⟩))
  have HWS := Lib.hid hws
  have hwl : ws.length = xs.length := by rw [← hws, List.length_map]
  have hGn : w.heap.size < G := by have e : (w.alloc (.cells #[] 3)).heap.size = w.heap.size + 1 := Array.size_push ..; omega
  have HWL := Lib.hid hwl
  have HGN := Lib.hid hGn
  have HA := Lib.hid hA
  have HB := Lib.hid (below_step (below_alloc (Below.refl w.heap.size w) (.cells #[] 3)) hb)
  have HO := Lib.hid (own_kept (own_empty3 w) hb)
  have HL1 := Lib.hid (HT.out.below HB.out)
  clear hws hG hA hb HS hwl hGn
  go_loopg [6, 8, 9, 10, 16] xs.length (fun gg s6 _ _ _ s16 wr => ∃ kk : Nat, kk ≤ xs.length ∧ xs.length - kk ≤ gg ∧ s16 = .int .i64 kk ∧ Hid (∀ (j : Nat) (h : j < xs.length), j < kk → (wordNum xs[j]).isSome = true) ∧ Hid (wr.ownsRow w.heap.size 3 1 s6 ((rnVals xs).take kk).length (nums .i64 ((rnVals xs).take kk))) ∧ Hid (some G ≠ s6.ownBlock) ∧ Hid (WordsAt wr G ws) ∧ Hid (Below w.heap.size w wr))
  case atStart => exact ⟨0, Nat.zero_le _, by omega, rfl, Lib.hid (fun j _ h => absurd h (Nat.not_lt_zero _)), HO, Lib.hid (fun e => by have h1 := HGN.out; have h2 : G = w.heap.size := Option.some.inj e; omega), HA, HB⟩
  case round =>
    obtain ⟨kk, hkk, hg, rfl, HOK, HO2, HNE, HA2, HB2⟩ := hrel
    by_cases hlt : kk < xs.length
    · have hlw : kk < ws.length := by have := HWL.out; omega
      obtain ⟨x, hx⟩ : ∃ x, x = ws[kk] := ⟨_, rfl⟩
      have hX : xs[kk] = x.data.toList := by
        have h1 := HWS.out
        subst h1
        rw [hx, List.getElem_map]
      have hcell := HA2.out.cell kk hlw
      rw [← hx] at hcell
      have hxs : x.size ≤ 1000000 := by
        have h1 := HSZ.out xs[kk] (List.getElem_mem hlt)
        rw [hX] at h1
        have := Lib.size_eq x
        omega
      have hltI : (kk : Int) < (ws.length : Int) := by omega
      clear hx
      cases hw : wordNum x.data.toList with
      | none =>
        have HR := Lib.hid (rnRes_no hlt (by rw [hX]; exact hw))
        by_cases hex : ∃ v, Lib.atoiAll x.data.toList = .ok v
        · obtain ⟨v, hv⟩ := hex
          have hne : (Lib.itoa v == x.toList) = false := by
            rw [Lib.toList_data, beq_eq_false_iff_ne]
            intro e
            unfold wordNum at hw
            rw [hv] at hw
            simp only [] at hw
            rw [if_pos e] at hw
            cases hw
          have hb64 := Lib.atoiAll_bounds hv
          have HAT := Lib.hid (fun W => atoi_ok x hxs v hv W)
          have HIT := Lib.hid (fun W hW => itoaI_calls v hb64.1 hb64.2 W hW)
          have HL2 := Lib.hid (HT.out.below HB2.out)
          clear hw hv hb64 hxs hlt hX
          go_wp2_with (first | (go_at_call 74; refine (HAT.out _).mono ?_; rintro e w2 ⟨rfl, hb⟩; have n2_ := Lib.hid (below_step HB2.out hb); have n3_ := Lib.hid (HL2.out.below hb); have n4_ := Lib.hid (own_kept HO2.out hb); have n5_ := Lib.hid (HA2.out.below hb); clear HL2; have HL2 := n3_; clear HB2; have HB2 := n2_; clear HO2; have HO2 := n4_; clear HA2; have HA2 := n5_; clear n2_ n3_ n4_ n5_ hb) | (go_at_call 88; refine (HIT.out _ HL2.out.tab).mono ?_; rintro e w3 ⟨rfl, hb⟩; have n2_ := Lib.hid (below_step HB2.out hb); have n4_ := Lib.hid (own_kept HO2.out hb); have n5_ := Lib.hid (HA2.out.below hb); clear HB2; have HB2 := n2_; clear HO2; have HO2 := n4_; clear HA2; have HA2 := n5_; clear n2_ n4_ n5_ hb))
          go_ret2
          rw [HR.out]
          exact ⟨_, rfl, own_nilI _ _, HB2.out⟩
        · have HAT := Lib.hid (fun W hW => atoi_no x hxs (fun v hv => hex ⟨v, hv⟩) W hW)
          have HL2 := Lib.hid (HT.out.below HB2.out)
          clear hw hex hxs hlt hX
          go_wp2_with (first | (go_at_call 74; refine (HAT.out _ HL2.out).mono ?_; rintro e w2 ⟨n_, N_, rfl, hb⟩; have n2_ := Lib.hid (below_step HB2.out hb); have n3_ := Lib.hid (HL2.out.below hb); have n4_ := Lib.hid (own_kept HO2.out hb); have n5_ := Lib.hid (HA2.out.below hb); clear HL2; have HL2 := n3_; clear HB2; have HB2 := n2_; clear HO2; have HO2 := n4_; clear HA2; have HA2 := n5_; clear n2_ n3_ n4_ n5_ hb))
          go_ret2
          rw [HR.out]
          exact ⟨_, rfl, own_nilI _ _, HB2.out⟩
      | some v =>
        have hwo := wordNum_own _ _ hw
        have hv : Lib.atoiAll x.data.toList = .ok v := by
          have h1 := hw
          unfold wordNum at h1
          rcases ha : Lib.atoiAll x.data.toList with n | _ | _
          · rw [ha] at h1
            simp only [] at h1
            split at h1
            · injection h1 with h1; rw [h1]
            · cases h1
          · rw [ha] at h1; cases h1
          · rw [ha] at h1; cases h1
        have heq : (Lib.itoa v == x.toList) = true := by
          rw [Lib.toList_data, beq_iff_eq]
          exact hwo.1
        have HOK2 := Lib.hid (show ∀ (j : Nat) (h : j < xs.length), j < kk + 1 → (wordNum xs[j]).isSome = true from fun j h h2 => by
          by_cases e : j = kk
          · subst e; rw [hX, hw]; rfl
          · exact HOK.out j h (by omega))
        have HSN := Lib.hid (rnVals_snoc xs kk hlt v (by rw [hX]; exact hw))
        have HAT := Lib.hid (fun W => atoi_ok x hxs v hv W)
        have HIT := Lib.hid (fun W hW => itoaI_calls v hwo.2.1 hwo.2.2 W hW)
        have HL2 := Lib.hid (HT.out.below HB2.out)
        have HCAP := Lib.hid (show (((rnVals xs).take kk).length + 1) * 8 ≤ 140737488355328 by rw [List.length_take]; have := HLEN.out; omega)
        have HKK := Lib.hid hlt
        clear hw hv hwo hxs hlt hX
        go_wp2_with (first | (go_at_call 74; refine (HAT.out _).mono ?_; rintro e w2 ⟨rfl, hb⟩; have n2_ := Lib.hid (below_step HB2.out hb); have n3_ := Lib.hid (HL2.out.below hb); have n4_ := Lib.hid (own_kept HO2.out hb); have n5_ := Lib.hid (HA2.out.below hb); clear HL2; have HL2 := n3_; clear HB2; have HB2 := n2_; clear HO2; have HO2 := n4_; clear HA2; have HA2 := n5_; clear n2_ n3_ n4_ n5_ hb) | (go_at_call 88; refine (HIT.out _ HL2.out.tab).mono ?_; rintro e w3 ⟨rfl, hb⟩; have n2_ := Lib.hid (below_step HB2.out hb); have n4_ := Lib.hid (own_kept HO2.out hb); have n5_ := Lib.hid (HA2.out.below hb); clear HB2; have HB2 := n2_; clear HO2; have HO2 := n4_; clear HA2; have HA2 := n5_; clear n2_ n4_ n5_ hb) | ((with_reducible refine gate_builtin (b := .append) (xs := #[.tmp 33, .tmp 35]) rfl ?_); at_builtin; refine print_append_of (w0 := w) (Value.int .i64) w.heap.size rfl (.tmp 33) (.tmp 35) 36 3 (.int .i64 0) 8 rfl Tryd.underlying36 infoI rfl (by decide) u6 ((rnVals xs).take kk) v rfl rfl rfl HO2.out HB2.out HB2.out.size HCAP.out ?_; intro v6 w6 ho hb hg2 hat; have n0_ := Lib.hid hb; have n1_ := Lib.hid ho; have n2_ := Lib.hid (HA2.out.grown hg2 HNE.out); have n3_ := Lib.hid (own_ne HNE.out HA2.out.lt hat); clear HB2; clear HO2; clear HA2; clear HNE; have HB2 := n0_; have HO2 := n1_; have HA2 := n2_; have HNE := n3_; clear n0_ n1_ n2_ n3_; clear ho hb hg2 hat))
        have hwk : wrap64 ((kk : Int) + 1) = ((kk + 1 : Nat) : Int) := by have := HLEN.out; have := HKK.out; unfold wrap64; omega
        rw [← HSN.out] at HO2
        go_roundg (xs.length - (kk + 1))
        case measure => have := HKK.out; omega
        case rel => exact ⟨kk + 1, by have := HKK.out; omega, by omega, by first | rw [hwk] | (simp only [hwk]; done) | go_num, HOK2, HO2, HNE, HA2, HB2⟩
    · have hkn : kk = xs.length := by omega
      subst hkn
      have hwl : ¬ ((xs.length : Int) < (ws.length : Int)) := by have := HWL.out; omega
      have hall : (rnVals xs).take xs.length = rnVals xs := by rw [← rnVals_len xs]; exact List.take_length
      rw [hall] at HO2
      have HR := Lib.hid (rnRes_yes fun j h => HOK.out j h h)
      clear hlt hkk hg hall
      go_wp2
      go_ret2
      rw [HR.out]
      exact ⟨_, rfl, HO2.out, HB2.out⟩
end Go.Proofs.YtbgmhdlmhncdcaaDoor.Hand
