/-
  DERIVED. GIVEN WITH THE SEED: THE CARDS: each row of YtbgmhdlmhncdcaaDoorRows.lean that lists a variable, with what it lists TIED to the program's text (the seventh form; the later family's looks); each row that meets fmt, with fmt's text TOLD by the authors' own Lean function (tested against real Go, not proved from fmt's source: count such statements apart). THE CARD IS WHAT COUNTS. Prove the row's statement (the work); the ties are given (YtbgmhdlmhncdcaaDoorTie.lean); close each card by the builder's one call (the guide's Derived/Test/ToyasCard.lean, 'card_holds'). Laid BY PROGRAM, IN A SANDBOX (cutbox-door.mjs). By AI agents, Wed Nov 11 2026. No macro, syntax, notation, axiom, sorry.
-/
import Derived.Test.YtbgmhdlmhncdcaaDoorRows
import GoSem.ClaimSeven
namespace Go.Proofs.YtbgmhdlmhncdcaaDoor
namespace Rows

/-- THE TIED CARD OF 'laws.FnExactPricesText'. -/
def fnExactPricesTextCard : Claim7 := { stood := { row := fnExactPricesTextRow, standIns := [], harness := (true, "d5814c15126bca0a896a7ff4fd5ed36ff80ccaf80bd90165e0ff83e54b7b270c"), looks := true }, kinds := [], alts := [], laidByText := true, laidKinds := [.data, .data, .data], laidTests := true, laidLooks := .later }
def FnExactPricesTextCardSaid : Prop := Claim7.holds Tryd.pinned (.plain (OpenSpec.ofChange fnExactPricesTextSpec)) fnExactPricesTextCard

/-- THE TIED CARD OF 'laws.FnExactDropsText'. -/
def fnExactDropsTextCard : Claim7 := { stood := { row := fnExactDropsTextRow, standIns := [], harness := (true, "d5814c15126bca0a896a7ff4fd5ed36ff80ccaf80bd90165e0ff83e54b7b270c"), looks := true }, kinds := [], alts := [], laidByText := true, laidKinds := [.data, .data, .data], laidTests := true, laidLooks := .later }
def FnExactDropsTextCardSaid : Prop := Claim7.holds Tryd.pinned (.plain (OpenSpec.ofChange fnExactDropsTextSpec)) fnExactDropsTextCard

/-- THE TIED CARD OF 'laws.FnExactTreeText'. -/
def fnExactTreeTextCard : Claim7 := { stood := { row := fnExactTreeTextRow, standIns := [], harness := (true, "d5814c15126bca0a896a7ff4fd5ed36ff80ccaf80bd90165e0ff83e54b7b270c"), looks := true }, kinds := [], alts := [], laidByText := true, laidKinds := [.data, .data, .data], laidTests := true, laidLooks := .later }
def FnExactTreeTextCardSaid : Prop := Claim7.holds Tryd.pinned (.plain (OpenSpec.ofChange fnExactTreeTextSpec)) fnExactTreeTextCard

/-- THE TIED CARD OF 'laws.FnExactKindTestsText'. -/
def fnExactKindTestsTextCard : Claim7 := { stood := { row := fnExactKindTestsTextRow, standIns := [], harness := (true, "d5814c15126bca0a896a7ff4fd5ed36ff80ccaf80bd90165e0ff83e54b7b270c"), looks := true }, kinds := [], alts := [], laidByText := true, laidKinds := [.data, .data, .data], laidTests := true, laidLooks := .later }
def FnExactKindTestsTextCardSaid : Prop := Claim7.holds Tryd.pinned (.plain (OpenSpec.ofChange fnExactKindTestsTextSpec)) fnExactKindTestsTextCard

/-- THE TIED CARD OF 'laws.FnExactParseDrops'. -/
def fnExactParseDropsCard : Claim7 := { stood := { row := fnExactParseDropsRow, standIns := [], harness := (true, "d5814c15126bca0a896a7ff4fd5ed36ff80ccaf80bd90165e0ff83e54b7b270c"), looks := true }, kinds := [], alts := [], laidByText := true, laidKinds := [.data, .data, .data, .sentinel, .sentinel], laidTests := true, laidLooks := .later }
def FnExactParseDropsCardSaid : Prop := Claim7.holds Tryd.pinned (.plain (OpenSpec.ofChange fnExactParseDropsSpec)) fnExactParseDropsCard

/-- THE TIED CARD OF 'laws.FnExactParsePrices'. -/
def fnExactParsePricesCard : Claim7 := { stood := { row := fnExactParsePricesRow, standIns := [], harness := (true, "d5814c15126bca0a896a7ff4fd5ed36ff80ccaf80bd90165e0ff83e54b7b270c"), looks := true }, kinds := [], alts := [], laidByText := true, laidKinds := [.data, .data, .data, .data, .sentinel, .sentinel, .pinned], laidTests := true, laidLooks := .later }
def FnExactParsePricesCardSaid : Prop := Claim7.holds Tryd.pinned (.plain (OpenSpec.ofChange fnExactParsePricesSpec)) fnExactParsePricesCard

/-- THE TIED CARD OF 'laws.FnExactParseKindTests'. -/
def fnExactParseKindTestsCard : Claim7 := { stood := { row := fnExactParseKindTestsRow, standIns := [], harness := (true, "d5814c15126bca0a896a7ff4fd5ed36ff80ccaf80bd90165e0ff83e54b7b270c"), looks := true }, kinds := [], alts := [], laidByText := true, laidKinds := [.data, .data, .data, .sentinel, .sentinel], laidTests := true, laidLooks := .later }
def FnExactParseKindTestsCardSaid : Prop := Claim7.holds Tryd.pinned (.plain (OpenSpec.ofChange fnExactParseKindTestsSpec)) fnExactParseKindTestsCard

/-- THE TIED CARD OF 'laws.FnExactParseTree'. -/
def fnExactParseTreeCard : Claim7 := { stood := { row := fnExactParseTreeRow, standIns := [], harness := (true, "d5814c15126bca0a896a7ff4fd5ed36ff80ccaf80bd90165e0ff83e54b7b270c"), looks := true }, kinds := [], alts := [], laidByText := true, laidKinds := [.data, .data, .data, .data, .sentinel, .sentinel, .pinned], laidTests := true, laidLooks := .later }
def FnExactParseTreeCardSaid : Prop := Claim7.holds Tryd.pinned (.plain (OpenSpec.ofChange fnExactParseTreeSpec)) fnExactParseTreeCard

/-- THE TIED CARD OF 'laws.FnExactParseRounds'. -/
def fnExactParseRoundsCard : Claim7 := { stood := { row := fnExactParseRoundsRow, standIns := [], harness := (true, "d5814c15126bca0a896a7ff4fd5ed36ff80ccaf80bd90165e0ff83e54b7b270c"), looks := true }, kinds := [], alts := [], laidByText := true, laidKinds := [.data, .data, .data, .data, .sentinel, .sentinel, .pinned], laidTests := true, laidLooks := .later }
def FnExactParseRoundsCardSaid : Prop := Claim7.holds Tryd.pinned (.plain (OpenSpec.ofChange fnExactParseRoundsSpec)) fnExactParseRoundsCard

/-- THE SECOND FORM's CARD OF 'laws.FnExactPricesText'. -/
def fnExactPricesTextUptoCard : Claim7 := { stood := { row := fnExactPricesTextUptoRow, standIns := [], harness := (true, "d5814c15126bca0a896a7ff4fd5ed36ff80ccaf80bd90165e0ff83e54b7b270c"), looks := true }, kinds := [], alts := [], laidByText := true, laidKinds := [.data, .data, .data], laidTests := true, laidLooks := .later }
def FnExactPricesTextUptoCardSaid : Prop := Claim7.holds Tryd.pinned (.plain (OpenSpec.upto fnExactPricesTextSpec)) fnExactPricesTextUptoCard

/-- THE SECOND FORM's CARD OF 'laws.FnExactDropsText'. -/
def fnExactDropsTextUptoCard : Claim7 := { stood := { row := fnExactDropsTextUptoRow, standIns := [], harness := (true, "d5814c15126bca0a896a7ff4fd5ed36ff80ccaf80bd90165e0ff83e54b7b270c"), looks := true }, kinds := [], alts := [], laidByText := true, laidKinds := [.data, .data, .data], laidTests := true, laidLooks := .later }
def FnExactDropsTextUptoCardSaid : Prop := Claim7.holds Tryd.pinned (.plain (OpenSpec.upto fnExactDropsTextSpec)) fnExactDropsTextUptoCard

/-- THE SECOND FORM's CARD OF 'laws.FnExactTreeText'. -/
def fnExactTreeTextUptoCard : Claim7 := { stood := { row := fnExactTreeTextUptoRow, standIns := [], harness := (true, "d5814c15126bca0a896a7ff4fd5ed36ff80ccaf80bd90165e0ff83e54b7b270c"), looks := true }, kinds := [], alts := [], laidByText := true, laidKinds := [.data, .data, .data], laidTests := true, laidLooks := .later }
def FnExactTreeTextUptoCardSaid : Prop := Claim7.holds Tryd.pinned (.plain (OpenSpec.upto fnExactTreeTextSpec)) fnExactTreeTextUptoCard

/-- THE SECOND FORM's CARD OF 'laws.FnExactKindTestsText'. -/
def fnExactKindTestsTextUptoCard : Claim7 := { stood := { row := fnExactKindTestsTextUptoRow, standIns := [], harness := (true, "d5814c15126bca0a896a7ff4fd5ed36ff80ccaf80bd90165e0ff83e54b7b270c"), looks := true }, kinds := [], alts := [], laidByText := true, laidKinds := [.data, .data, .data], laidTests := true, laidLooks := .later }
def FnExactKindTestsTextUptoCardSaid : Prop := Claim7.holds Tryd.pinned (.plain (OpenSpec.upto fnExactKindTestsTextSpec)) fnExactKindTestsTextUptoCard

/-- THE SECOND FORM's CARD OF 'laws.FnExactParseDrops'. -/
def fnExactParseDropsUptoCard : Claim7 := { stood := { row := fnExactParseDropsUptoRow, standIns := [], harness := (true, "d5814c15126bca0a896a7ff4fd5ed36ff80ccaf80bd90165e0ff83e54b7b270c"), looks := true }, kinds := [], alts := [], laidByText := true, laidKinds := [.data, .data, .data, .sentinel, .sentinel], laidTests := true, laidLooks := .later }
def FnExactParseDropsUptoCardSaid : Prop := Claim7.holds Tryd.pinned (.plain (OpenSpec.upto fnExactParseDropsSpec)) fnExactParseDropsUptoCard

/-- THE SECOND FORM's CARD OF 'laws.FnExactParsePrices'. -/
def fnExactParsePricesUptoCard : Claim7 := { stood := { row := fnExactParsePricesUptoRow, standIns := [], harness := (true, "d5814c15126bca0a896a7ff4fd5ed36ff80ccaf80bd90165e0ff83e54b7b270c"), looks := true }, kinds := [], alts := [], laidByText := true, laidKinds := [.data, .data, .data, .data, .sentinel, .sentinel, .pinned], laidTests := true, laidLooks := .later }
def FnExactParsePricesUptoCardSaid : Prop := Claim7.holds Tryd.pinned (.plain (OpenSpec.upto fnExactParsePricesSpec)) fnExactParsePricesUptoCard

/-- THE SECOND FORM's CARD OF 'laws.FnExactParseKindTests'. -/
def fnExactParseKindTestsUptoCard : Claim7 := { stood := { row := fnExactParseKindTestsUptoRow, standIns := [], harness := (true, "d5814c15126bca0a896a7ff4fd5ed36ff80ccaf80bd90165e0ff83e54b7b270c"), looks := true }, kinds := [], alts := [], laidByText := true, laidKinds := [.data, .data, .data, .sentinel, .sentinel], laidTests := true, laidLooks := .later }
def FnExactParseKindTestsUptoCardSaid : Prop := Claim7.holds Tryd.pinned (.plain (OpenSpec.upto fnExactParseKindTestsSpec)) fnExactParseKindTestsUptoCard

/-- THE SECOND FORM's CARD OF 'laws.FnExactParseTree'. -/
def fnExactParseTreeUptoCard : Claim7 := { stood := { row := fnExactParseTreeUptoRow, standIns := [], harness := (true, "d5814c15126bca0a896a7ff4fd5ed36ff80ccaf80bd90165e0ff83e54b7b270c"), looks := true }, kinds := [], alts := [], laidByText := true, laidKinds := [.data, .data, .data, .data, .sentinel, .sentinel, .pinned], laidTests := true, laidLooks := .later }
def FnExactParseTreeUptoCardSaid : Prop := Claim7.holds Tryd.pinned (.plain (OpenSpec.upto fnExactParseTreeSpec)) fnExactParseTreeUptoCard

/-- THE SECOND FORM's CARD OF 'laws.FnExactParseRounds'. -/
def fnExactParseRoundsUptoCard : Claim7 := { stood := { row := fnExactParseRoundsUptoRow, standIns := [], harness := (true, "d5814c15126bca0a896a7ff4fd5ed36ff80ccaf80bd90165e0ff83e54b7b270c"), looks := true }, kinds := [], alts := [], laidByText := true, laidKinds := [.data, .data, .data, .data, .sentinel, .sentinel, .pinned], laidTests := true, laidLooks := .later }
def FnExactParseRoundsUptoCardSaid : Prop := Claim7.holds Tryd.pinned (.plain (OpenSpec.upto fnExactParseRoundsSpec)) fnExactParseRoundsUptoCard
end Rows
end Go.Proofs.YtbgmhdlmhncdcaaDoor
