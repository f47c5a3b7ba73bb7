/- The program's OpenAfterRounds answers as the reference's does (the row of the law FnExactOpenAfterRounds): the law's arguments, opened; no conditions. -/
import Derived.Test.YtnolocmcjcjjcaaRows
import Derived.Test.YtnolocmcjcjjcaaQFnExactOpenAfterRoundsx
import Derived.Test.YtnolocmcjcjjcaaPureFnExactOpenAfterRounds
import Derived.WalkKit
import Derived.ProofKit
import Derived.OpenShut
import Derived.ShutString
import Derived.ChangeOld
import Derived.Below
import Derived.SizedLaws
import Derived.Deep.Slices
import Derived.Deep.Fields
import Derived.Deep.Matrix
import Derived.ChangeSame
import Derived.Lib.SmallJoins
namespace Go.Proofs.Ytnolocmcjcjjcaa.fnExactOpenAfterRounds
open Go.ChangeShapes Go.WideShapes Go.ChangeAt Go.RowKit Go.Deep Go.Joins Go.Proofs.YtnolocmcjcjjcaaW.PrintWords Go.Proofs.Ytnolocmcjcjjcaa.QFnExactOpenAfterRounds
set_option linter.unusedVariables false
theorem own : ownKnob Try.prog.godebug = none := by kernel_rfl
theorem laidOut : laidOutB Try.prog = true := by kernel_rfl
theorem open_rowsSS {H : Type} {enc : TypeId × Value → H} {W : World} {held : Bool} {a : Option Addr} {len cap : Nat} {d : DataW H} {p : List MemPlace} (h : DataW.Trod enc Try.prog W 0 (fun _ => true) held 30 (.slice a len cap) d p) :
    ∃ l : List (List Int), l.length = len ∧ (len ≤ 9223372036854775807 ∧ ∀ x ∈ l, x.length ≤ 9223372036854775807) ∧ len ≤ cap ∧ Kd.C (Kd.slice 3 (Kd.int .i64)) W a l.length l := by
  obtain ⟨fuel, hf⟩ := h
  rcases open_int_rows Try.underlying30 Try.underlying25 Try.underlying3 (by kernel_rfl) (by kernel_rfl) hf with ⟨hcs, _⟩ | ⟨x, l, c, A, L, C, Z, hcs, _, hl, hm, _, hi⟩
  · simp [Value.cells] at hcs
    obtain ⟨rfl, rfl, rfl⟩ := hcs
    exact ⟨[], rfl, ⟨Nat.zero_le _, fun x hx => by cases hx⟩, Nat.le_refl _, Kd.C_nil _ _⟩
  · simp [Value.cells] at hcs
    obtain ⟨rfl, rfl, rfl⟩ := hcs
    have hmax : len ≤ 9223372036854775807 := by unfold maxLen at hm; omega
    have hrow : ∀ r, r < len → ((Z r).take (L r)).length = L r ∧ L r ≤ C r ∧ C r ≤ 9223372036854775807 := fun r hr => by
      obtain ⟨_, h1, h2, h3, _⟩ := hi r (by omega)
      exact ⟨by rw [List.length_take]; omega, h1, by unfold maxLen at h2; omega⟩
    refine ⟨(List.range len).map fun r => (Z r).take (L r), by rw [List.length_map, List.length_range], ⟨hmax, fun y hy => ?_⟩, hl, ?_⟩
    · obtain ⟨r, hr, rfl⟩ := List.mem_map.1 hy
      have h1 := hrow r (List.mem_range.1 hr)
      omega
    · refine ⟨rfl, by rw [List.length_map, List.length_range]; exact hmax, fun _ => ⟨x, rfl, fun j p hp => ?_⟩⟩
      rw [List.getElem?_map] at hp
      obtain ⟨r, hr, rfl⟩ := Option.map_eq_some_iff.1 hp
      obtain ⟨hj, e⟩ := List.getElem?_eq_some_iff.mp hr
      rw [List.length_range] at hj
      rw [List.getElem_range] at e
      subst e
      obtain ⟨hc, h1, h2, h3, _, h5, h6⟩ := hi j (by omega)
      obtain ⟨h7, h8, h9⟩ := hrow j hj
      refine ⟨[.slice (A j) (L j) (C j)], rfl, ⟨A j, C j, by rw [h7], by rw [h7]; exact h8, rfl, by rw [h7]; omega, fun h0 => ?_⟩, fun i u hu => ?_⟩
      · cases hA : A j with
        | none => have := h5 hA; omega
        | some a' =>
          refine ⟨a', rfl, fun i z hz => ⟨[.int .i64 z], rfl, rfl, fun q u hu => ?_⟩⟩
          obtain ⟨hi1, e1⟩ := List.getElem?_eq_some_iff.mp hz
          rw [List.getElem_take] at e1
          have hi2 : i < L j := by rw [h7] at hi1; exact hi1
          have h10 := (h6 a' hA).2 i (by omega)
          rw [List.getD_eq_getElem?_getD, List.getElem?_eq_getElem (by omega), Option.getD_some, e1] at h10
          match q, hu with
          | 0, hu =>
            have e_ := Option.some.inj hu
            rw [← e_]
            show W.cell? (a'.add (i * 1 + 0)) = _
            rw [Nat.mul_one, Nat.add_zero]; exact h10
          | q + 1, hu => simp at hu
      · match i, hu with
        | 0, hu =>
          have e_ := Option.some.inj hu
          rw [← e_]
          show W.cell? (x.add (j * 1 + 0)) = _
          rw [Nat.mul_one, Nat.add_zero]; exact hc
        | i + 1, hu => simp at hu
set_option maxRecDepth 100000 in
theorem lifted (os : Os) (started : os.Started) (H : Type) (enc : TypeId × Value → H) :
    ReturnsInHanded {} Try.checked os 10 .any (Rows.fnExactOpenAfterRoundsSpec.pre6 enc Try.prog Try.f10 Rows.fnExactOpenAfterRoundsRow.domain false) (Rows.fnExactOpenAfterRoundsSpec.post enc Try.prog Try.f10 false true false false) := by
  refine returnsInHanded_of_change_sized (C := Try.checked) own started (by kernel_rfl) Try.func10
    (ChangeSpec.witness6 (enc := enc) (C := Try.checked) false ⟨#[], #[.int .i64 0, .int .i64 0, .slice none 0 0, .int .i64 0], []⟩ 8 (by kernel_rfl) (by kernel_rfl) (by kernel_rfl) (by kernel_rfl)) ?_
  intro W base args ds gs before hval0 hW hcnd hsz0 _
  have hval : ∀ (j : Nat) t v, Try.f10.params[j]? = some t → args[j]? = some v → Value.okWide Try.prog W .any base t v := hval0
  have hW' := hW
  obtain ⟨p, q, hA0, hV, rfl, hfz, hnd⟩ := hW
  have hA : DataW.TrodAll enc Try.prog W 0 (fun _ => true) true Try.f10.params.toList args.toList ds p := hA0
  rw [Try.params10] at hA hval
  obtain ⟨v0, vs0, d0, ds0, p0, q0, hargs, rfl, rfl, h0, r0⟩ := trodAll_cons hA
  obtain ⟨v1, vs1, d1, ds1, p1, q1, rfl, rfl, rfl, h1, r1⟩ := trodAll_cons r0
  obtain ⟨v2, vs2, d2, ds2, p2, q2, rfl, rfl, rfl, h2, r2⟩ := trodAll_cons r1
  obtain ⟨v3, vs3, d3, ds3, p3, q3, rfl, rfl, rfl, h3, r3⟩ := trodAll_cons r2
  obtain ⟨rfl, rfl, rfl⟩ := trodAll_nil r3
  obtain rfl : args = #[v0, v1, v2, v3] := by cases args; simp_all
  obtain ⟨rfl, rfl⟩ := trodVars_none hV
  obtain ⟨a0, rfl, rfl, rfl, w0⟩ := open_int Try.underlying3 (hval 0 3 v0 rfl rfl) h0
  obtain ⟨a1, rfl, rfl, rfl, w1⟩ := open_int Try.underlying3 (hval 1 3 v1 rfl rfl) h1
  obtain ⟨a2, len2, cap2, rfl⟩ := okWide_slice Try.underlying30 (hval 2 30 v2 rfl rfl)
  have lt2 : ∀ x ∈ p2, x.block < W.heap.size := by obtain ⟨m, hm⟩ := h2; exact DataW.trod_lt m _ _ _ hm
  obtain ⟨l2, hl2, hmax2, hcap2, hrow2⟩ := open_rowsSS h2
  subst hl2
  obtain ⟨a3, rfl, rfl, rfl, w3⟩ := open_int Try.underlying3 (hval 3 3 v3 rfl rfl) h3
  clear hA0 hval0 hsz0
  obtain ⟨k, hk⟩ := Pure.FnExactOpenAfterRounds a0 a1 l2 a3 hmax2
  refine (laws_FnExactOpenAfterRounds.calls k a0 a1 a2 cap2 l2 a3 true W hrow2 hcap2 hk rfl).mono fun e W' ⟨he, bel⟩ => ?_
  subst he
  exact ⟨_, rfl, _, _, _, [], _, [], hW', trodAll_mk1 (shut_bool Try.underlying4 _), (trodAll_cons_mk (shut_int Try.underlying3 w0) (trodAll_cons_mk (shut_int Try.underlying3 w1) (trodAll_cons_mk (Below.trod laidOut (by kernel_rfl) (of_decide_eq_true (by kernel_rfl)) h2 bel lt2) (trodAll_cons_mk (shut_int Try.underlying3 w3) trodAll_mk0)))), rfl, bel.frame _, fun h => by cases h⟩
theorem over : Rows.fnExactOpenAfterRoundsRow.holds Try.pinned (OpenSpec.ofChange Rows.fnExactOpenAfterRoundsSpec) :=
  OpenClaim.holds_of_wide 10 Try.f10 rfl rfl rfl rfl rfl rfl rfl ⟨rfl, rfl, rfl, rfl, rfl⟩ rfl rfl rfl rfl rfl (by kernel_rfl) Try.func10 (by kernel_rfl)
    (of_decide_eq_true (by kernel_rfl)) (by unfold Func.isWrapper; first | (rw [if_pos (by decide +kernel)]; kernel_rfl) | (rw [if_neg (by decide +kernel)]; exact ⟨rfl, rfl⟩))
    (fun os started H enc _ => lifted os started H enc)
theorem proved : Rows.FnExactOpenAfterRoundsSaid := over
#print axioms proved
end Go.Proofs.Ytnolocmcjcjjcaa.fnExactOpenAfterRounds
namespace Go.Proofs.Ytnolocmcjcjjcaa
/-- The row, under a short name, for the claim. -/
theorem fnExactOpenAfterRounds_holds : Rows.FnExactOpenAfterRoundsSaid := fnExactOpenAfterRounds.proved
end Go.Proofs.Ytnolocmcjcjjcaa
