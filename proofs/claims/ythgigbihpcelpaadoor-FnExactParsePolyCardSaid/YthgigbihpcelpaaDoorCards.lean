/-
  DERIVED. GIVEN WITH THE SEED: THE CARDS: each row of YthgigbihpcelpaaDoorRows.lean that lists a variable, with what it lists TIED to the program's text (the seventh form; the later family's looks); each row that meets fmt, with fmt's text TOLD by the authors' own Lean function (tested against real Go, not proved from fmt's source: count such statements apart). THE CARD IS WHAT COUNTS. Prove the row's statement (the work); the ties are given (YthgigbihpcelpaaDoorTie.lean); close each card by the builder's one call (the guide's Derived/Test/ToyasCard.lean, 'card_holds'). Laid BY PROGRAM, IN A SANDBOX (cutbox-door.mjs). By AI agents, Wed Nov 11 2026. No macro, syntax, notation, axiom, sorry.
-/
import Derived.Test.YthgigbihpcelpaaDoorRows
import GoSem.ClaimSeven
namespace Go.Proofs.YthgigbihpcelpaaDoor
namespace Rows

/-- THE TIED CARD OF 'laws.FnExactParseInts'. -/
def fnExactParseIntsCard : Claim7 := { stood := { row := fnExactParseIntsRow, standIns := [], harness := (true, "85f18adffd37b06d78d0de0cb110e6b44cf81103ad1cf670d13451f8991d977b"), looks := false }, kinds := [], alts := [], laidByText := true, laidKinds := [.data, .pinned], laidTests := true, laidLooks := .later }
def FnExactParseIntsCardSaid : Prop := Claim7.holds Tryd.pinned (.plain (OpenSpec.ofChange fnExactParseIntsSpec)) fnExactParseIntsCard

/-- THE TIED CARD OF 'laws.FnExactParsePoly'. -/
def fnExactParsePolyCard : Claim7 := { stood := { row := fnExactParsePolyRow, standIns := [], harness := (true, "85f18adffd37b06d78d0de0cb110e6b44cf81103ad1cf670d13451f8991d977b"), looks := false }, kinds := [], alts := [], laidByText := true, laidKinds := [.data, .pinned], laidTests := true, laidLooks := .later }
def FnExactParsePolyCardSaid : Prop := Claim7.holds Tryd.pinned (.plain (OpenSpec.ofChange fnExactParsePolySpec)) fnExactParsePolyCard

/-- THE SECOND FORM's CARD OF 'laws.FnExactParseInts'. -/
def fnExactParseIntsUptoCard : Claim7 := { stood := { row := fnExactParseIntsUptoRow, standIns := [], harness := (true, "85f18adffd37b06d78d0de0cb110e6b44cf81103ad1cf670d13451f8991d977b"), looks := false }, kinds := [], alts := [], laidByText := true, laidKinds := [.data, .pinned], laidTests := true, laidLooks := .later }
def FnExactParseIntsUptoCardSaid : Prop := Claim7.holds Tryd.pinned (.plain (OpenSpec.upto fnExactParseIntsSpec)) fnExactParseIntsUptoCard

/-- THE SECOND FORM's CARD OF 'laws.FnExactParsePoly'. -/
def fnExactParsePolyUptoCard : Claim7 := { stood := { row := fnExactParsePolyUptoRow, standIns := [], harness := (true, "85f18adffd37b06d78d0de0cb110e6b44cf81103ad1cf670d13451f8991d977b"), looks := false }, kinds := [], alts := [], laidByText := true, laidKinds := [.data, .pinned], laidTests := true, laidLooks := .later }
def FnExactParsePolyUptoCardSaid : Prop := Claim7.holds Tryd.pinned (.plain (OpenSpec.upto fnExactParsePolySpec)) fnExactParsePolyUptoCard
end Rows
end Go.Proofs.YthgigbihpcelpaaDoor
