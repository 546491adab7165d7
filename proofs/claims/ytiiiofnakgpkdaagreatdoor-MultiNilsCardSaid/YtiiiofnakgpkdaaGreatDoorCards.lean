/-
  DERIVED. GIVEN WITH THE SEED: THE CARDS: each row of YtiiiofnakgpkdaaGreatDoorRows.lean that lists a variable, with what it lists TIED to the program's text (the seventh form; the later family's looks); each row that meets fmt, with fmt's text TOLD by the authors' own Lean function (tested against real Go, not proved from fmt's source: count such statements apart). THE CARD IS WHAT COUNTS. Prove the row's statement (the work); the ties are given (YtiiiofnakgpkdaaGreatDoorTie.lean); close each card by the builder's one call (the guide's Derived/Test/ToyasCard.lean, 'card_holds'). Laid BY PROGRAM, IN A SANDBOX (cutbox-door.mjs). By AI agents, Wed Nov 11 2026. No macro, syntax, notation, axiom, sorry.
-/
import Derived.Test.YtiiiofnakgpkdaaGreatDoorRows
import GoSem.ClaimSeven
namespace Go.Proofs.YtiiiofnakgpkdaaGreatDoor
namespace Rows

/-- THE TIED CARD OF 'arborlaw23.CheckNils'. -/
def checkNilsCard : Claim7 := { stood := { row := checkNilsRow, standIns := [], harness := (true, "5003d2db9e775cd9e7aa75389d8072fa7c275381a7167f1ffa6f7981afd6892f"), looks := true }, kinds := [], alts := [], laidByText := true, laidKinds := [.data, .data, .data, .data, .sentinel, .sentinel, .pinned], laidTests := true, laidLooks := .later }
def CheckNilsCardSaid : Prop := Claim7.holds Tryz.pinned (.plain (OpenSpec.ofChange checkNilsSpec)) checkNilsCard

/-- THE TIED CARD OF 'arborlaw25.MultiNils'. -/
def multiNilsCard : Claim7 := { stood := { row := multiNilsRow, standIns := [], harness := (true, "5003d2db9e775cd9e7aa75389d8072fa7c275381a7167f1ffa6f7981afd6892f"), looks := true }, kinds := [], alts := [], laidByText := true, laidKinds := [.data, .data, .data, .data, .sentinel, .sentinel, .pinned], laidTests := true, laidLooks := .later }
def MultiNilsCardSaid : Prop := Claim7.holds Tryz.pinned (.plain (OpenSpec.ofChange multiNilsSpec)) multiNilsCard

/-- THE SECOND FORM's CARD OF 'arborlaw23.CheckNils'. -/
def checkNilsUptoCard : Claim7 := { stood := { row := checkNilsUptoRow, standIns := [], harness := (true, "5003d2db9e775cd9e7aa75389d8072fa7c275381a7167f1ffa6f7981afd6892f"), looks := true }, kinds := [], alts := [], laidByText := true, laidKinds := [.data, .data, .data, .data, .sentinel, .sentinel, .pinned], laidTests := true, laidLooks := .later }
def CheckNilsUptoCardSaid : Prop := Claim7.holds Tryz.pinned (.plain (OpenSpec.upto checkNilsSpec)) checkNilsUptoCard

/-- THE SECOND FORM's CARD OF 'arborlaw25.MultiNils'. -/
def multiNilsUptoCard : Claim7 := { stood := { row := multiNilsUptoRow, standIns := [], harness := (true, "5003d2db9e775cd9e7aa75389d8072fa7c275381a7167f1ffa6f7981afd6892f"), looks := true }, kinds := [], alts := [], laidByText := true, laidKinds := [.data, .data, .data, .data, .sentinel, .sentinel, .pinned], laidTests := true, laidLooks := .later }
def MultiNilsUptoCardSaid : Prop := Claim7.holds Tryz.pinned (.plain (OpenSpec.upto multiNilsSpec)) multiNilsUptoCard
end Rows
end Go.Proofs.YtiiiofnakgpkdaaGreatDoor
