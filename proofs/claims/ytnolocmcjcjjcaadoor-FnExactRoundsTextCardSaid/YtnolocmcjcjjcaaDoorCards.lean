/-
  DERIVED. GIVEN WITH THE SEED: THE CARDS: each row of YtnolocmcjcjjcaaDoorRows.lean that lists a variable, with what it lists TIED to the program's text (the seventh form; the later family's looks); each row that meets fmt, with fmt's text TOLD by the authors' own Lean function (tested against real Go, not proved from fmt's source: count such statements apart). THE CARD IS WHAT COUNTS. Prove the row's statement (the work); the ties are given (YtnolocmcjcjjcaaDoorTie.lean); close each card by the builder's one call (the guide's Derived/Test/ToyasCard.lean, 'card_holds'). Laid BY PROGRAM, IN A SANDBOX (cutbox-door.mjs). By AI agents, Wed Nov 11 2026. No macro, syntax, notation, axiom, sorry.
-/
import Derived.Test.YtnolocmcjcjjcaaDoorRows
import GoSem.ClaimSeven
namespace Go.Proofs.YtnolocmcjcjjcaaDoor
namespace Rows

/-- THE TIED CARD OF 'laws.FnExactRoundsText'. -/
def fnExactRoundsTextCard : Claim7 := { stood := { row := fnExactRoundsTextRow, standIns := [], harness := (true, "ae5715e403b5c335d1029808378773c6019648132a346f7fd1caa79a2b8fa920"), looks := false }, kinds := [], alts := [], laidByText := true, laidKinds := [.data, .data, .data], laidTests := true, laidLooks := .later }
def FnExactRoundsTextCardSaid : Prop := Claim7.holds Tryd.pinned (.plain (OpenSpec.ofChange fnExactRoundsTextSpec)) fnExactRoundsTextCard

/-- THE SECOND FORM's CARD OF 'laws.FnExactRoundsText'. -/
def fnExactRoundsTextUptoCard : Claim7 := { stood := { row := fnExactRoundsTextUptoRow, standIns := [], harness := (true, "ae5715e403b5c335d1029808378773c6019648132a346f7fd1caa79a2b8fa920"), looks := false }, kinds := [], alts := [], laidByText := true, laidKinds := [.data, .data, .data], laidTests := true, laidLooks := .later }
def FnExactRoundsTextUptoCardSaid : Prop := Claim7.holds Tryd.pinned (.plain (OpenSpec.upto fnExactRoundsTextSpec)) fnExactRoundsTextUptoCard
end Rows
end Go.Proofs.YtnolocmcjcjjcaaDoor
