/-
  DERIVED. GIVEN WITH THE SEED: THE CARDS: each row of YtjipcihcldngbaaGreatDoorRows.lean that lists a variable, with what it lists TIED to the program's text (the seventh form; the later family's looks); each row that meets fmt, with fmt's text TOLD by the authors' own Lean function (tested against real Go, not proved from fmt's source: count such statements apart). THE CARD IS WHAT COUNTS. Prove the row's statement (the work); the ties are given (YtjipcihcldngbaaGreatDoorTie.lean); close each card by the builder's one call (the guide's Derived/Test/ToyasCard.lean, 'card_holds'). Laid BY PROGRAM, IN A SANDBOX (cutbox-door.mjs). By AI agents, Wed Nov 11 2026. No macro, syntax, notation, axiom, sorry.
-/
import Derived.Test.YtjipcihcldngbaaGreatDoorRows
import GoSem.ClaimSeven
namespace Go.Proofs.YtjipcihcldngbaaGreatDoor
namespace Rows

/-- THE TIED CARD OF 'arborlaw28.ReplicaNils'. -/
def replicaNilsCard : Claim7 := { stood := { row := replicaNilsRow, standIns := [], harness := (true, "81a16d13950b7ec4de831dbd3c9e881df7c10a459bc3487685135bdab1caaa32"), looks := true }, kinds := [], alts := [], laidByText := true, laidKinds := [.data, .data, .data, .data, .sentinel, .sentinel, .pinned], laidTests := true, laidLooks := .later }
def ReplicaNilsCardSaid : Prop := Claim7.holds Tryz.pinned (.plain (OpenSpec.ofChange replicaNilsSpec)) replicaNilsCard

/-- THE SECOND FORM's CARD OF 'arborlaw28.ReplicaNils'. -/
def replicaNilsUptoCard : Claim7 := { stood := { row := replicaNilsUptoRow, standIns := [], harness := (true, "81a16d13950b7ec4de831dbd3c9e881df7c10a459bc3487685135bdab1caaa32"), looks := true }, kinds := [], alts := [], laidByText := true, laidKinds := [.data, .data, .data, .data, .sentinel, .sentinel, .pinned], laidTests := true, laidLooks := .later }
def ReplicaNilsUptoCardSaid : Prop := Claim7.holds Tryz.pinned (.plain (OpenSpec.upto replicaNilsSpec)) replicaNilsUptoCard
end Rows
end Go.Proofs.YtjipcihcldngbaaGreatDoor
