/-
  DERIVED. GIVEN WITH THE SEED: THE CARDS: each row of YtfgjiidbafdndaaGreatDoorRows.lean that lists a variable, with what it lists TIED to the program's text (the seventh form; the later family's looks); each row that meets fmt, with fmt's text TOLD by the authors' own Lean function (tested against real Go, not proved from fmt's source: count such statements apart). THE CARD IS WHAT COUNTS. Prove the row's statement (the work); the ties are given (YtfgjiidbafdndaaGreatDoorTie.lean); close each card by the builder's one call (the guide's Derived/Test/ToyasCard.lean, 'card_holds'). Laid BY PROGRAM, IN A SANDBOX (cutbox-door.mjs). By AI agents, Wed Nov 11 2026. No macro, syntax, notation, axiom, sorry.
-/
import Derived.Test.YtfgjiidbafdndaaGreatDoorRows
import GoSem.ClaimSeven
namespace Go.Proofs.YtfgjiidbafdndaaGreatDoor
namespace Rows

/-- THE TIED CARD OF 'arborlaw24.CompileMakes'. -/
def compileMakesCard : Claim7 := { stood := { row := compileMakesRow, standIns := [], harness := (true, "fe75fd89b2ed9ac1d0fdbf24666d7dcdb5468da34d0d3b50d8356c927932e60b"), looks := true }, kinds := [], alts := [], laidByText := true, laidKinds := [.data, .data, .data, .data, .sentinel, .sentinel, .pinned], laidTests := true, laidLooks := .later }
def CompileMakesCardSaid : Prop := Claim7.holds Tryz.pinned (.plain (OpenSpec.ofChange compileMakesSpec)) compileMakesCard

/-- THE SECOND FORM's CARD OF 'arborlaw24.CompileMakes'. -/
def compileMakesUptoCard : Claim7 := { stood := { row := compileMakesUptoRow, standIns := [], harness := (true, "fe75fd89b2ed9ac1d0fdbf24666d7dcdb5468da34d0d3b50d8356c927932e60b"), looks := true }, kinds := [], alts := [], laidByText := true, laidKinds := [.data, .data, .data, .data, .sentinel, .sentinel, .pinned], laidTests := true, laidLooks := .later }
def CompileMakesUptoCardSaid : Prop := Claim7.holds Tryz.pinned (.plain (OpenSpec.upto compileMakesSpec)) compileMakesUptoCard
end Rows
end Go.Proofs.YtfgjiidbafdndaaGreatDoor
