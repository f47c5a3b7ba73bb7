/- The program's RoundsText answers as the reference's does (the row of the law FnExactRoundsText and its card): the law's arguments, opened; the listed variables start as the program's text lays them (the card ties them; the tie is given). -/
import Derived.Test.YtnolocmcjcjjcaaDoorCards
import Derived.Test.YtnolocmcjcjjcaaDoorTie
import Derived.Test.YtnolocmcjcjjcaaDoorQFnExactRoundsTextx
import Derived.Test.YtnolocmcjcjjcaaDoorPureFnExactRoundsText
import Derived.WalkKit
import Derived.ProofKit
import Derived.OpenShut
import Derived.ShutString
import Derived.ChangeOld
import Derived.Below
import Derived.SizedLaws
import Derived.Deep.Slices
import Derived.Deep.Fields
import Derived.Deep.Matrix
import Derived.ChangeSame
import Derived.LaidMore
import Derived.MakeChecks
import Derived.Stop.LaidErr
import Derived.Deep.DeepHandedRow
import Derived.Deep.DeepWitnessRowRef
import Derived.Lib.LaidTab
import Derived.Lib.SmallJoins
namespace Go.Proofs.YtnolocmcjcjjcaaDoor.fnExactRoundsText
open Go.ChangeShapes Go.WideShapes Go.ChangeAt Go.RowKit Go.Deep Go.Joins Go.Proofs.YtnolocmcjcjjcaaDoorW.PrintWords Go.Proofs.YtnolocmcjcjjcaaDoor.QFnExactRoundsText
open Go.ChangeMaps (open_string shut_string)
set_option linter.unusedVariables false
set_option maxRecDepth 100000
theorem own : ownKnob Tryd.prog.godebug = none := by kernel_rfl
theorem laidOut : laidOutB Tryd.prog = true := by kernel_rfl
theorem gTab : Tryd.prog.globalNamed "internal/strconv.uint64pow10" = some 1 := by kernel_rfl
theorem gTabType : (Tryd.prog.globals[1]?).map (·.type) = some 69 := by kernel_rfl
theorem cellsTab : Tryd.prog.cellsOf 69 = 20 := by kernel_rfl
theorem cellsEl : Tryd.prog.cellsOf 63 = 1 := by kernel_rfl
theorem tabIs : (Rows.laid_internal_strconv_uint64pow10 : DataW Unit) = Lib.tabData .u64 Lib.pow10Tab := by kernel_rfl
theorem plainLaid : (Rows.fnExactRoundsTextRow.laid.all fun x => x.2.handleName?.isNone) = true := by kernel_rfl
/-- What the row's list gives: the table of powers. -/
theorem table {W : World} (h : laidMetH Tryd.prog Rows.fnExactRoundsTextRow.laid W) : Hand.Tab10 W := by
  rw [MakeChecks.laidMetH_plain _ _ _ plainLaid] at h
  have h2 := (laidMet.tail (laidMet.tail h))
  rw [tabIs] at h2
  exact Lib.tabIs_of_head gTab gTabType Tryd.underlying69 Tryd.underlying63 cellsEl cellsTab h2
theorem open_rowsSS {H : Type} {enc : TypeId × Value → H} {W : World} {held : Bool} {a : Option Addr} {len cap : Nat} {d : DataW H} {p : List MemPlace} (h : DataW.Trod enc Tryd.prog W 0 (fun _ => true) held 22 (.slice a len cap) d p) :
    ∃ l : List (List Int), l.length = len ∧ (len ≤ 9223372036854775807 ∧ ∀ x ∈ l, x.length ≤ 9223372036854775807) ∧ len ≤ cap ∧ Kd.C (Kd.slice 3 (Kd.int .i64)) W a l.length l := by
  obtain ⟨fuel, hf⟩ := h
  rcases open_int_rows Tryd.underlying22 Tryd.underlying30 Tryd.underlying3 (by kernel_rfl) (by kernel_rfl) hf with ⟨hcs, _⟩ | ⟨x, l, c, A, L, C, Z, hcs, _, hl, hm, _, hi⟩
  · simp [Value.cells] at hcs
    obtain ⟨rfl, rfl, rfl⟩ := hcs
    exact ⟨[], rfl, ⟨Nat.zero_le _, fun x hx => by cases hx⟩, Nat.le_refl _, Kd.C_nil _ _⟩
  · simp [Value.cells] at hcs
    obtain ⟨rfl, rfl, rfl⟩ := hcs
    have hmax : len ≤ 9223372036854775807 := by unfold maxLen at hm; omega
    have hrow : ∀ r, r < len → ((Z r).take (L r)).length = L r ∧ L r ≤ C r ∧ C r ≤ 9223372036854775807 := fun r hr => by
      obtain ⟨_, h1, h2, h3, _⟩ := hi r (by omega)
      exact ⟨by rw [List.length_take]; omega, h1, by unfold maxLen at h2; omega⟩
    refine ⟨(List.range len).map fun r => (Z r).take (L r), by rw [List.length_map, List.length_range], ⟨hmax, fun y hy => ?_⟩, hl, ?_⟩
    · obtain ⟨r, hr, rfl⟩ := List.mem_map.1 hy
      have h1 := hrow r (List.mem_range.1 hr)
      omega
    · refine ⟨rfl, by rw [List.length_map, List.length_range]; exact hmax, fun _ => ⟨x, rfl, fun j p hp => ?_⟩⟩
      rw [List.getElem?_map] at hp
      obtain ⟨r, hr, rfl⟩ := Option.map_eq_some_iff.1 hp
      obtain ⟨hj, e⟩ := List.getElem?_eq_some_iff.mp hr
      rw [List.length_range] at hj
      rw [List.getElem_range] at e
      subst e
      obtain ⟨hc, h1, h2, h3, _, h5, h6⟩ := hi j (by omega)
      obtain ⟨h7, h8, h9⟩ := hrow j hj
      refine ⟨[.slice (A j) (L j) (C j)], rfl, ⟨A j, C j, by rw [h7], by rw [h7]; exact h8, rfl, by rw [h7]; omega, fun h0 => ?_⟩, fun i u hu => ?_⟩
      · cases hA : A j with
        | none => have := h5 hA; omega
        | some a' =>
          refine ⟨a', rfl, fun i z hz => ⟨[.int .i64 z], rfl, rfl, fun q u hu => ?_⟩⟩
          obtain ⟨hi1, e1⟩ := List.getElem?_eq_some_iff.mp hz
          rw [List.getElem_take] at e1
          have hi2 : i < L j := by rw [h7] at hi1; exact hi1
          have h10 := (h6 a' hA).2 i (by omega)
          rw [List.getD_eq_getElem?_getD, List.getElem?_eq_getElem (by omega), Option.getD_some, e1] at h10
          match q, hu with
          | 0, hu =>
            have e_ := Option.some.inj hu
            rw [← e_]
            show W.cell? (a'.add (i * 1 + 0)) = _
            rw [Nat.mul_one, Nat.add_zero]; exact h10
          | q + 1, hu => simp at hu
      · match i, hu with
        | 0, hu =>
          have e_ := Option.some.inj hu
          rw [← e_]
          show W.cell? (x.add (j * 1 + 0)) = _
          rw [Nat.mul_one, Nat.add_zero]; exact hc
        | i + 1, hu => simp at hu
/-- What the walk gives, for every argument and every world that holds the listed variables. -/
theorem contract (H : Type) (enc : TypeId × Value → H) (W : World) (base : Nat) (args : Array Value) (ds gs : List (DataW H)) (before : List MemPlace)
    (hval0 : ∀ (j : Nat) t v, Tryd.f3.params[j]? = some t → args[j]? = some v → Value.okWide Tryd.prog W .any base t v)
    (hW : DataW.Whole enc Tryd.prog Tryd.f3.params.toList Rows.fnExactRoundsTextSpec.vars false W args.toList ds gs before)
    (hsz0 : (DataW.weightsEach Tryd.prog (Tryd.f3.params.toList ++ Rows.fnExactRoundsTextSpec.plain.varTypes Tryd.prog) (ds ++ gs)).all (· ≤ reachBytes) = true)
    (hL : laidMetH Tryd.prog Rows.fnExactRoundsTextRow.laid W) (hS : W.ShapedOpen Tryd.prog) :
    Calls Tryd.prog 3 args W fun e W' => ∃ v, e = .returned v ∧ Rows.fnExactRoundsTextSpec.post enc Tryd.prog Tryd.f3 false true false false W args v W' := by
  have hsz := hsz0
  have hval : ∀ (j : Nat) t v, Tryd.f3.params[j]? = some t → args[j]? = some v → Value.okWide Tryd.prog W .any base t v := hval0
  have hW' := hW
  obtain ⟨p, q, hA0, hV, rfl, hfz, hnd⟩ := hW
  have hA : DataW.TrodAll enc Tryd.prog W 0 (fun _ => true) true Tryd.f3.params.toList args.toList ds p := hA0
  rw [Tryd.params3] at hA hval hsz
  obtain ⟨v0, vs0, d0, ds0, p0, q0, hargs, rfl, rfl, h0, r0⟩ := trodAll_cons hA
  obtain ⟨rfl, rfl, rfl⟩ := trodAll_nil r0
  obtain rfl : args = #[v0] := by cases args; simp_all
  obtain ⟨rfl, rfl⟩ := trodVars_none hV
  obtain ⟨a0, len0, cap0, rfl⟩ := okWide_slice Tryd.underlying22 (hval 0 22 v0 rfl rfl)
  have lt0 : ∀ x ∈ p0, x.block < W.heap.size := by obtain ⟨m, hm⟩ := h0; exact DataW.trod_lt m _ _ _ hm
  obtain ⟨l0, hl0, hmax0, hcap0, hrow0⟩ := open_rowsSS h0
  subst hl0
  clear hA0 hval0 hsz0
  obtain ⟨k, hk⟩ := Pure.FnExactRoundsText l0 hmax0
  refine (laws_FnExactRoundsText.calls k a0 cap0 l0 true W hrow0 hcap0 hk rfl (table hL)).mono fun e W' ⟨he, bel⟩ => ?_
  subst he
  exact ⟨_, rfl, _, _, _, [], _, [], hW', trodAll_mk1 (shut_bool Tryd.underlying4 _), (trodAll_cons_mk (Below.trod laidOut (by kernel_rfl) (of_decide_eq_true (by kernel_rfl)) h0 bel lt0) trodAll_mk0), rfl, bel.frame _, fun h => by cases h⟩
theorem laid_met (os : Os) : laidMetH Tryd.prog Rows.fnExactRoundsTextRow.laid ((World.doorLaid Tryd.prog 72 os).forCall (fun _ _ => 0) ⟨#[], #[.slice none 0 0], []⟩).memory := by
  rw [MakeChecks.laidMetH_plain _ _ _ plainLaid]
  exact laidMet_of_run' 8 (by kernel_rfl) (by kernel_rfl)
theorem reads (os : Os) {H : Type} (enc : TypeId × Value → H) : ∃ places, DataW.whole enc Tryd.prog ((World.doorLaid Tryd.prog 72 os).forCall (fun _ _ => 0) ⟨#[], #[.slice none 0 0], []⟩).memory Tryd.f3.params.toList Rows.fnExactRoundsTextSpec.vars false (#[.slice none 0 0] : Array Value).toList 8 = some ([.nil], [], places) :=
  ⟨[], by kernel_rfl⟩
set_option maxRecDepth 100000 in
theorem lifted (os : Os) (started : os.Started) (H : Type) (enc : TypeId × Value → H) (F : Stop.Interp) :
    ReturnsInHanded {} Tryd.checked os 3 .any ((OpenSpec.ofChange Rows.fnExactRoundsTextSpec).preRow enc Tryd.prog Tryd.f3 Rows.fnExactRoundsTextRow.domain false Rows.fnExactRoundsTextRow.laid) (((OpenSpec.ofChange Rows.fnExactRoundsTextSpec).at F).post enc Tryd.prog Tryd.f3 false true false false) := by
  obtain ⟨places, hx⟩ := reads os enc
  refine returnsInHanded_of_row (C := Tryd.checked) (s := OpenSpec.ofChange Rows.fnExactRoundsTextSpec) own started (by kernel_rfl) Tryd.func3
    (witness_row_atRef (enc := enc) (C := Tryd.checked) false (World.doorLaid Tryd.prog 72 os) #[.slice none 0 0] rfl (by kernel_rfl) (by kernel_rfl) (by kernel_rfl)
      (OpenSpec.preRow_of_cond 8 hx (by kernel_rfl) (fun k hk => by cases hk) (by kernel_rfl) (laid_met os))) ?_
  intro W base args ds gs before hval hW _ _ hsz hL hS _
  exact contract H enc W base args ds gs before hval hW hsz hL hS
theorem said : Rows.FnExactRoundsTextSaid :=
  OpenClaim.holds_of_cond 3 Tryd.f3 rfl rfl rfl rfl rfl rfl rfl ⟨rfl, rfl, rfl, rfl, rfl⟩ rfl rfl rfl rfl rfl (by kernel_rfl) Tryd.func3 (by kernel_rfl)
    (of_decide_eq_true (by kernel_rfl)) (by unfold Func.isWrapper; first | (rw [if_pos (by decide +kernel)]; kernel_rfl) | (rw [if_neg (by decide +kernel)]; exact ⟨rfl, rfl⟩))
    (fun os started H enc _ F => by rw [OpenClaim.pre_eq_preRow]; exact lifted os started H enc F)
theorem paramsPlain : (Tryd.f3.params.toList.all fun t => !Tryd.prog.wantsStandIn t) = true := by kernel_rfl
theorem plain (f : FuncId) (fn : Func) (hf : Tryd.pinned.checked.prog.funcNamed "loop.example/g01325/laws.FnExactRoundsText" = some f) (hfn : Tryd.pinned.checked.prog.funcs[f]? = some fn) :
    false = Tryd.pinned.checked.prog.looks [] ∧ ∀ (j : Nat) t, fn.params[j]? = some t → Tryd.pinned.checked.prog.wantsStandIn t = false := by
  obtain rfl : f = 3 := Option.some.inj ((show Tryd.prog.funcNamed "loop.example/g01325/laws.FnExactRoundsText" = some 3 by kernel_rfl).symm.trans hf) |>.symm
  obtain rfl : fn = Tryd.f3 := (Option.some.inj (Tryd.func3.symm.trans hfn)).symm
  refine ⟨by kernel_rfl, fun j t ht => ?_⟩
  have hm : t ∈ Tryd.f3.params.toList := by rw [Array.mem_toList_iff]; exact Array.mem_of_getElem? ht
  have h1 : Tryd.prog.wantsStandIn t = false := by simpa using List.all_eq_true.1 paramsPlain t hm
  exact h1
theorem card : Rows.FnExactRoundsTextCardSaid :=
  Claim7.holds_tied_plain_at .later [] _ _ _ _ said (fun _ h => by cases h) (by kernel_rfl) (fun _ h => by cases h) fnExactRoundsText_row_tie rfl ⟨rfl, rfl⟩ (by kernel_rfl) rfl plain (by kernel_rfl)
#print axioms card
end Go.Proofs.YtnolocmcjcjjcaaDoor.fnExactRoundsText
namespace Go.Proofs.YtnolocmcjcjjcaaDoor
/-- The card, under a short name, for the claim. -/
theorem fnExactRoundsText_holds : Rows.FnExactRoundsTextCardSaid := fnExactRoundsText.card
end Go.Proofs.YtnolocmcjcjjcaaDoor
