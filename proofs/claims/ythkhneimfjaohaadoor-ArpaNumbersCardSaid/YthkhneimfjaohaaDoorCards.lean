/-
  DERIVED. GIVEN WITH THE SEED: THE CARDS: each row of YthkhneimfjaohaaDoorRows.lean that lists a variable, with what it lists TIED to the program's text (the seventh form; the later family's looks); each row that meets fmt, with fmt's text TOLD by the authors' own Lean function (tested against real Go, not proved from fmt's source: count such statements apart). THE CARD IS WHAT COUNTS. Prove the row's statement (the work); the ties are given (YthkhneimfjaohaaDoorTie.lean); close each card by the builder's one call (the guide's Derived/Test/ToyasCard.lean, 'card_holds'). Laid BY PROGRAM, IN A SANDBOX (cutbox-door.mjs). By AI agents, Wed Nov 11 2026. No macro, syntax, notation, axiom, sorry.
-/
import Derived.Test.YthkhneimfjaohaaDoorRows
import GoSem.ClaimSeven
namespace Go.Proofs.YthkhneimfjaohaaDoor
namespace Rows

/-- THE TIED CARD OF 'locutionlaw39.ArpaNumbers'. -/
def arpaNumbersCard : Claim7 := { stood := { row := arpaNumbersRow, standIns := [], harness := (true, "aca6c6f0f6a8b11158d599eadc66ad4333da478aa1e8bbc5acafbd31a9b17346"), looks := true }, kinds := [], alts := [], laidByText := true, laidKinds := [.data, .data, .data, .data, .pinned], laidTests := true, laidLooks := .later }
def ArpaNumbersCardSaid : Prop := Claim7.holds Tryd.pinned (.plain (OpenSpec.ofChange arpaNumbersSpec)) arpaNumbersCard

/-- THE SECOND FORM's CARD OF 'locutionlaw39.ArpaNumbers'. -/
def arpaNumbersUptoCard : Claim7 := { stood := { row := arpaNumbersUptoRow, standIns := [], harness := (true, "aca6c6f0f6a8b11158d599eadc66ad4333da478aa1e8bbc5acafbd31a9b17346"), looks := true }, kinds := [], alts := [], laidByText := true, laidKinds := [.data, .data, .data, .data, .pinned], laidTests := true, laidLooks := .later }
def ArpaNumbersUptoCardSaid : Prop := Claim7.holds Tryd.pinned (.plain (OpenSpec.upto arpaNumbersSpec)) arpaNumbersUptoCard
end Rows
end Go.Proofs.YthkhneimfjaohaaDoor
