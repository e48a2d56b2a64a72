/-
  DERIVED. GIVEN WITH THE SEED: THE CARDS: each row of YthkhneimfjaohaaGreatDoorRows.lean that lists a variable, with what it lists TIED to the program's text (the seventh form; the later family's looks); each row that meets fmt, with fmt's text TOLD by the authors' own Lean function (tested against real Go, not proved from fmt's source: count such statements apart). THE CARD IS WHAT COUNTS. Prove the row's statement (the work); the ties are given (YthkhneimfjaohaaGreatDoorTie.lean); close each card by the builder's one call (the guide's Derived/Test/ToyasCard.lean, 'card_holds'). Laid BY PROGRAM, IN A SANDBOX (cutbox-door.mjs). By AI agents, Wed Nov 11 2026. No macro, syntax, notation, axiom, sorry.
-/
import Derived.Test.YthkhneimfjaohaaGreatDoorRows
import GoSem.ClaimSeven
namespace Go.Proofs.YthkhneimfjaohaaGreatDoor
namespace Rows

/-- THE TIED CARD OF 'locutionlaw39.ArpaPrints'. -/
def arpaPrintsCard : Claim7 := { stood := { row := arpaPrintsRow, standIns := [], harness := (true, "55dd870acfe0e6dd8daa44441f6edb26ded0ae509246f0f2d0bf2244a5c4c0ff"), looks := true }, kinds := [], alts := [], laidByText := true, laidKinds := [.data, .data, .data, .data, .pinned], laidTests := true, laidLooks := .later }
def ArpaPrintsCardSaid : Prop := Claim7.holds Tryz.pinned (.plain (OpenSpec.ofChange arpaPrintsSpec)) arpaPrintsCard

/-- THE TIED CARD OF 'locutionlaw39.ArpaParses'. -/
def arpaParsesCard : Claim7 := { stood := { row := arpaParsesRow, standIns := [], harness := (true, "55dd870acfe0e6dd8daa44441f6edb26ded0ae509246f0f2d0bf2244a5c4c0ff"), looks := true }, kinds := [], alts := [], laidByText := true, laidKinds := [.data, .data, .data, .data, .pinned], laidTests := true, laidLooks := .later }
def ArpaParsesCardSaid : Prop := Claim7.holds Tryz.pinned (.plain (OpenSpec.ofChange arpaParsesSpec)) arpaParsesCard

/-- THE TIED CARD OF 'locutionlaw39.ArpaBack'. -/
def arpaBackCard : Claim7 := { stood := { row := arpaBackRow, standIns := [], harness := (true, "55dd870acfe0e6dd8daa44441f6edb26ded0ae509246f0f2d0bf2244a5c4c0ff"), looks := true }, kinds := [], alts := [], laidByText := true, laidKinds := [.data, .data, .data, .data, .pinned], laidTests := true, laidLooks := .later }
def ArpaBackCardSaid : Prop := Claim7.holds Tryz.pinned (.plain (OpenSpec.ofChange arpaBackSpec)) arpaBackCard

/-- THE SECOND FORM's CARD OF 'locutionlaw39.ArpaPrints'. -/
def arpaPrintsUptoCard : Claim7 := { stood := { row := arpaPrintsUptoRow, standIns := [], harness := (true, "55dd870acfe0e6dd8daa44441f6edb26ded0ae509246f0f2d0bf2244a5c4c0ff"), looks := true }, kinds := [], alts := [], laidByText := true, laidKinds := [.data, .data, .data, .data, .pinned], laidTests := true, laidLooks := .later }
def ArpaPrintsUptoCardSaid : Prop := Claim7.holds Tryz.pinned (.plain (OpenSpec.upto arpaPrintsSpec)) arpaPrintsUptoCard

/-- THE SECOND FORM's CARD OF 'locutionlaw39.ArpaParses'. -/
def arpaParsesUptoCard : Claim7 := { stood := { row := arpaParsesUptoRow, standIns := [], harness := (true, "55dd870acfe0e6dd8daa44441f6edb26ded0ae509246f0f2d0bf2244a5c4c0ff"), looks := true }, kinds := [], alts := [], laidByText := true, laidKinds := [.data, .data, .data, .data, .pinned], laidTests := true, laidLooks := .later }
def ArpaParsesUptoCardSaid : Prop := Claim7.holds Tryz.pinned (.plain (OpenSpec.upto arpaParsesSpec)) arpaParsesUptoCard

/-- THE SECOND FORM's CARD OF 'locutionlaw39.ArpaBack'. -/
def arpaBackUptoCard : Claim7 := { stood := { row := arpaBackUptoRow, standIns := [], harness := (true, "55dd870acfe0e6dd8daa44441f6edb26ded0ae509246f0f2d0bf2244a5c4c0ff"), looks := true }, kinds := [], alts := [], laidByText := true, laidKinds := [.data, .data, .data, .data, .pinned], laidTests := true, laidLooks := .later }
def ArpaBackUptoCardSaid : Prop := Claim7.holds Tryz.pinned (.plain (OpenSpec.upto arpaBackSpec)) arpaBackUptoCard
end Rows
end Go.Proofs.YthkhneimfjaohaaGreatDoor
