/-
  No cell of these rows narrows 'for every input' (looked for: loops, veiled, ifaces, maps, wideKeys, modest, calm, conditions, laid).
  DERIVED. THE GIVEN ROWS OF THIS SEAT. 8 by the template 'for every input the law returns true; each argument reads behind the call as it read before'; 0 by the template 'total and deterministic' (their statements: YtgcglnohpmpnkaaTotals.lean).
  GIVEN WITH THE SEED: the statements are not yours to turn. If you find one false, say at which input.
  Laid BY PROGRAM, IN A SANDBOX (cutbox-rows.mjs): the forced cells as the released guide's own fill.sh prints them over the translation 7124bafbf78e85cd… (all of the seat's roots in one cut). By AI agents, Wed Nov 11 2026. No macro, syntax, notation, axiom, sorry.
-/
import Derived.Test.YtgcglnohpmpnkaaChecked
import GoSem.Claim
import GoSem.ClaimJoined
import GoSem.ClaimMapViews
import Derived.JoinedTies
import Derived.KernelRfl
namespace Go.Proofs.Ytgcglnohpmpnkaa
/- THE CELL 'sum', in the pinned program and in every row, IS THE sha256 OF THE DUMP (.gsa) THAT YtgcglnohpmpnkaaProg.lean LOADS. Nothing in Lean hashes anything: it is a label: what it is worth is what the hold of that sum in a sandbox is worth. -/
noncomputable def Try.pinned : Pinned := { name := "ytgcglnohpmpnkaa", sum := "7124bafbf78e85cd85389fecedaaa0c91cc2e8c06b2da05b14bc845ec7555884", checked := Try.checked }
namespace Rows
def none {H : Type} : Left H := { results := [], args := [] }

/-- 'arborlaw04.FramesAffine': WHATEVER THE INPUT: true; the input reads as it did. -/
def framesAffineSpec : ChangeSpec := { name := "framesAffine", fn := fun _ => fun
  | [d1, d2, d3] => { results := [.lit (.bool true)], args := [d1, d2, d3] }
  | _ => none }
def framesAffineRow : OpenClaim := { program := "ytgcglnohpmpnkaa", sum := "7124bafbf78e85cd85389fecedaaa0c91cc2e8c06b2da05b14bc845ec7555884", func := "arbor/arborlaw04.FramesAffine", spec := "framesAffine", apart := false }
def FramesAffineSaid : Prop := framesAffineRow.holds Try.pinned (OpenSpec.ofChange framesAffineSpec)

/-- ITS FALSE NEIGHBOUR: 'it returns false'. Refute it at one input. -/
def framesAffineWrong : ChangeSpec := { name := "framesAffine", fn := fun _ => fun
  | [d1, d2, d3] => { results := [.lit (.bool false)], args := [d1, d2, d3] }
  | _ => none }
def FramesAffineWrongFalsely : Prop := framesAffineRow.holds Try.pinned (OpenSpec.ofChange framesAffineWrong)

/-- 'arborlaw04.FramesPuts': WHATEVER THE INPUT: true; the input reads as it did. -/
def framesPutsSpec : ChangeSpec := { name := "framesPuts", fn := fun _ => fun
  | [d] => { results := [.lit (.bool true)], args := [d] }
  | _ => none }
def framesPutsRow : OpenClaim := { program := "ytgcglnohpmpnkaa", sum := "7124bafbf78e85cd85389fecedaaa0c91cc2e8c06b2da05b14bc845ec7555884", func := "arbor/arborlaw04.FramesPuts", spec := "framesPuts", apart := false }
def FramesPutsSaid : Prop := framesPutsRow.holds Try.pinned (OpenSpec.ofChange framesPutsSpec)

/-- ITS FALSE NEIGHBOUR: 'it returns false'. Refute it at one input. -/
def framesPutsWrong : ChangeSpec := { name := "framesPuts", fn := fun _ => fun
  | [d] => { results := [.lit (.bool false)], args := [d] }
  | _ => none }
def FramesPutsWrongFalsely : Prop := framesPutsRow.holds Try.pinned (OpenSpec.ofChange framesPutsWrong)

/-- 'arborlaw04.FramesBursts': WHATEVER THE INPUT: true; the input reads as it did. -/
def framesBurstsSpec : ChangeSpec := { name := "framesBursts", fn := fun _ => fun
  | [d1, d2, d3, d4] => { results := [.lit (.bool true)], args := [d1, d2, d3, d4] }
  | _ => none }
def framesBurstsRow : OpenClaim := { program := "ytgcglnohpmpnkaa", sum := "7124bafbf78e85cd85389fecedaaa0c91cc2e8c06b2da05b14bc845ec7555884", func := "arbor/arborlaw04.FramesBursts", spec := "framesBursts", apart := false }
def FramesBurstsSaid : Prop := framesBurstsRow.holds Try.pinned (OpenSpec.ofChange framesBurstsSpec)

/-- ITS FALSE NEIGHBOUR: 'it returns false'. Refute it at one input. -/
def framesBurstsWrong : ChangeSpec := { name := "framesBursts", fn := fun _ => fun
  | [d1, d2, d3, d4] => { results := [.lit (.bool false)], args := [d1, d2, d3, d4] }
  | _ => none }
def FramesBurstsWrongFalsely : Prop := framesBurstsRow.holds Try.pinned (OpenSpec.ofChange framesBurstsWrong)

/-- 'arborlaw04.FramesNexts': WHATEVER THE INPUT: true; the input reads as it did. -/
def framesNextsSpec : ChangeSpec := { name := "framesNexts", fn := fun _ => fun
  | [d1, d2] => { results := [.lit (.bool true)], args := [d1, d2] }
  | _ => none }
def framesNextsRow : OpenClaim := { program := "ytgcglnohpmpnkaa", sum := "7124bafbf78e85cd85389fecedaaa0c91cc2e8c06b2da05b14bc845ec7555884", func := "arbor/arborlaw04.FramesNexts", spec := "framesNexts", unfollowed := true, recurses := true, apart := false }
def FramesNextsSaid : Prop := framesNextsRow.holds Try.pinned (OpenSpec.ofChange framesNextsSpec)

/-- ITS FALSE NEIGHBOUR: 'it returns false'. Refute it at one input. -/
def framesNextsWrong : ChangeSpec := { name := "framesNexts", fn := fun _ => fun
  | [d1, d2] => { results := [.lit (.bool false)], args := [d1, d2] }
  | _ => none }
def FramesNextsWrongFalsely : Prop := framesNextsRow.holds Try.pinned (OpenSpec.ofChange framesNextsWrong)

/-- 'arborlaw04.FramesBack': WHATEVER THE INPUT: true; the input reads as it did. -/
def framesBackSpec : ChangeSpec := { name := "framesBack", fn := fun _ => fun
  | [d1, d2, d3, d4] => { results := [.lit (.bool true)], args := [d1, d2, d3, d4] }
  | _ => none }
def framesBackRow : OpenClaim := { program := "ytgcglnohpmpnkaa", sum := "7124bafbf78e85cd85389fecedaaa0c91cc2e8c06b2da05b14bc845ec7555884", func := "arbor/arborlaw04.FramesBack", spec := "framesBack", unfollowed := true, recurses := true, apart := false }
def FramesBackSaid : Prop := framesBackRow.holds Try.pinned (OpenSpec.ofChange framesBackSpec)

/-- ITS FALSE NEIGHBOUR: 'it returns false'. Refute it at one input. -/
def framesBackWrong : ChangeSpec := { name := "framesBack", fn := fun _ => fun
  | [d1, d2, d3, d4] => { results := [.lit (.bool false)], args := [d1, d2, d3, d4] }
  | _ => none }
def FramesBackWrongFalsely : Prop := framesBackRow.holds Try.pinned (OpenSpec.ofChange framesBackWrong)

/-- 'arborlaw04.FramesStreams': WHATEVER THE INPUT: true; the input reads as it did. -/
def framesStreamsSpec : ChangeSpec := { name := "framesStreams", fn := fun _ => fun
  | [d] => { results := [.lit (.bool true)], args := [d] }
  | _ => none }
def framesStreamsRow : OpenClaim := { program := "ytgcglnohpmpnkaa", sum := "7124bafbf78e85cd85389fecedaaa0c91cc2e8c06b2da05b14bc845ec7555884", func := "arbor/arborlaw04.FramesStreams", spec := "framesStreams", unfollowed := true, recurses := true, apart := false }
def FramesStreamsSaid : Prop := framesStreamsRow.holds Try.pinned (OpenSpec.ofChange framesStreamsSpec)

/-- ITS FALSE NEIGHBOUR: 'it returns false'. Refute it at one input. -/
def framesStreamsWrong : ChangeSpec := { name := "framesStreams", fn := fun _ => fun
  | [d] => { results := [.lit (.bool false)], args := [d] }
  | _ => none }
def FramesStreamsWrongFalsely : Prop := framesStreamsRow.holds Try.pinned (OpenSpec.ofChange framesStreamsWrong)

/-- 'arborlaw04.FramesAhead': WHATEVER THE INPUT: true; the input reads as it did. -/
def framesAheadSpec : ChangeSpec := { name := "framesAhead", fn := fun _ => fun
  | [d1, d2, d3] => { results := [.lit (.bool true)], args := [d1, d2, d3] }
  | _ => none }
def framesAheadRow : OpenClaim := { program := "ytgcglnohpmpnkaa", sum := "7124bafbf78e85cd85389fecedaaa0c91cc2e8c06b2da05b14bc845ec7555884", func := "arbor/arborlaw04.FramesAhead", spec := "framesAhead", unfollowed := true, recurses := true, apart := false }
def FramesAheadSaid : Prop := framesAheadRow.holds Try.pinned (OpenSpec.ofChange framesAheadSpec)

/-- ITS FALSE NEIGHBOUR: 'it returns false'. Refute it at one input. -/
def framesAheadWrong : ChangeSpec := { name := "framesAhead", fn := fun _ => fun
  | [d1, d2, d3] => { results := [.lit (.bool false)], args := [d1, d2, d3] }
  | _ => none }
def FramesAheadWrongFalsely : Prop := framesAheadRow.holds Try.pinned (OpenSpec.ofChange framesAheadWrong)

/-- 'arborlaw04.FramesPieces': WHATEVER THE INPUT: true; the input reads as it did. -/
def framesPiecesSpec : ChangeSpec := { name := "framesPieces", fn := fun _ => fun
  | [d1, d2, d3] => { results := [.lit (.bool true)], args := [d1, d2, d3] }
  | _ => none }
def framesPiecesRow : OpenClaim := { program := "ytgcglnohpmpnkaa", sum := "7124bafbf78e85cd85389fecedaaa0c91cc2e8c06b2da05b14bc845ec7555884", func := "arbor/arborlaw04.FramesPieces", spec := "framesPieces", unfollowed := true, recurses := true, apart := false }
def FramesPiecesSaid : Prop := framesPiecesRow.holds Try.pinned (OpenSpec.ofChange framesPiecesSpec)

/-- ITS FALSE NEIGHBOUR: 'it returns false'. Refute it at one input. -/
def framesPiecesWrong : ChangeSpec := { name := "framesPieces", fn := fun _ => fun
  | [d1, d2, d3] => { results := [.lit (.bool false)], args := [d1, d2, d3] }
  | _ => none }
def FramesPiecesWrongFalsely : Prop := framesPiecesRow.holds Try.pinned (OpenSpec.ofChange framesPiecesWrong)

/- THE SECOND FORM. 'bulk': how many values and letters a reading holds, each counted each time it is reached (what is shared counts as often as it is met; a slice's spare places count too). A statement '..UptoSaid' is the law's where the arguments, and the package variables that the reading takes, are together of bulk at most 1048576: NARROWER than '..Said'. Prove '..Said' where nothing that the law and all that it calls make is longer than what came in: it says more and counts as full. Else prove '..UptoSaid'. A law counts once. -/
mutual
def uptoBulk {H : Type} : DataW H → Nat
  | .lit (.string bytes) => bytes.length + 1
  | .lit _ => 1
  | .nil => 1
  | .ptr d => uptoBulk d + 1
  | .slice elems spare => uptoBulkAll elems + uptoBulkAll spare + 1
  | .agg parts => uptoBulkAll parts + 1
  | .iface _ d => uptoBulk d + 1
  | .map entries => uptoBulkEntries entries + 1
  | .held _ => 1
def uptoBulkAll {H : Type} : List (DataW H) → Nat
  | [] => 0
  | d :: r => uptoBulk d + uptoBulkAll r
def uptoBulkEntries {H : Type} : List (Lit × DataW H) → Nat
  | [] => 0
  | x :: r => uptoBulkEntry x + uptoBulkEntries r
def uptoBulkEntry {H : Type} : Lit × DataW H → Nat
  | (.string bytes, d) => bytes.length + uptoBulk d + 1
  | (_, d) => uptoBulk d + 1
 end
def uptoSmall : (H : Type) → List (DataW H) → Bool := fun _ ds => decide (uptoBulkAll ds ≤ 1048576)
def OpenSpec.upto (s : _root_.Go.ChangeSpec) : _root_.Go.OpenSpec := { _root_.Go.OpenSpec.ofChange s with cond := some uptoSmall }

/-- 'arborlaw04.FramesAffine', WHERE WHAT IT READS IS OF BULK AT MOST 1048576: true; the input reads as it did. -/
def framesAffineUptoRow : OpenClaim := { program := "ytgcglnohpmpnkaa", sum := "7124bafbf78e85cd85389fecedaaa0c91cc2e8c06b2da05b14bc845ec7555884", func := "arbor/arborlaw04.FramesAffine", spec := "framesAffine", apart := false, narrowed := true }
def FramesAffineUptoSaid : Prop := framesAffineUptoRow.holds Try.pinned (OpenSpec.upto framesAffineSpec)

/-- 'arborlaw04.FramesPuts', WHERE WHAT IT READS IS OF BULK AT MOST 1048576: true; the input reads as it did. -/
def framesPutsUptoRow : OpenClaim := { program := "ytgcglnohpmpnkaa", sum := "7124bafbf78e85cd85389fecedaaa0c91cc2e8c06b2da05b14bc845ec7555884", func := "arbor/arborlaw04.FramesPuts", spec := "framesPuts", apart := false, narrowed := true }
def FramesPutsUptoSaid : Prop := framesPutsUptoRow.holds Try.pinned (OpenSpec.upto framesPutsSpec)

/-- 'arborlaw04.FramesBursts', WHERE WHAT IT READS IS OF BULK AT MOST 1048576: true; the input reads as it did. -/
def framesBurstsUptoRow : OpenClaim := { program := "ytgcglnohpmpnkaa", sum := "7124bafbf78e85cd85389fecedaaa0c91cc2e8c06b2da05b14bc845ec7555884", func := "arbor/arborlaw04.FramesBursts", spec := "framesBursts", apart := false, narrowed := true }
def FramesBurstsUptoSaid : Prop := framesBurstsUptoRow.holds Try.pinned (OpenSpec.upto framesBurstsSpec)

/-- 'arborlaw04.FramesNexts', WHERE WHAT IT READS IS OF BULK AT MOST 1048576: true; the input reads as it did. -/
def framesNextsUptoRow : OpenClaim := { program := "ytgcglnohpmpnkaa", sum := "7124bafbf78e85cd85389fecedaaa0c91cc2e8c06b2da05b14bc845ec7555884", func := "arbor/arborlaw04.FramesNexts", spec := "framesNexts", unfollowed := true, recurses := true, apart := false, narrowed := true }
def FramesNextsUptoSaid : Prop := framesNextsUptoRow.holds Try.pinned (OpenSpec.upto framesNextsSpec)

/-- 'arborlaw04.FramesBack', WHERE WHAT IT READS IS OF BULK AT MOST 1048576: true; the input reads as it did. -/
def framesBackUptoRow : OpenClaim := { program := "ytgcglnohpmpnkaa", sum := "7124bafbf78e85cd85389fecedaaa0c91cc2e8c06b2da05b14bc845ec7555884", func := "arbor/arborlaw04.FramesBack", spec := "framesBack", unfollowed := true, recurses := true, apart := false, narrowed := true }
def FramesBackUptoSaid : Prop := framesBackUptoRow.holds Try.pinned (OpenSpec.upto framesBackSpec)

/-- 'arborlaw04.FramesStreams', WHERE WHAT IT READS IS OF BULK AT MOST 1048576: true; the input reads as it did. -/
def framesStreamsUptoRow : OpenClaim := { program := "ytgcglnohpmpnkaa", sum := "7124bafbf78e85cd85389fecedaaa0c91cc2e8c06b2da05b14bc845ec7555884", func := "arbor/arborlaw04.FramesStreams", spec := "framesStreams", unfollowed := true, recurses := true, apart := false, narrowed := true }
def FramesStreamsUptoSaid : Prop := framesStreamsUptoRow.holds Try.pinned (OpenSpec.upto framesStreamsSpec)

/-- 'arborlaw04.FramesAhead', WHERE WHAT IT READS IS OF BULK AT MOST 1048576: true; the input reads as it did. -/
def framesAheadUptoRow : OpenClaim := { program := "ytgcglnohpmpnkaa", sum := "7124bafbf78e85cd85389fecedaaa0c91cc2e8c06b2da05b14bc845ec7555884", func := "arbor/arborlaw04.FramesAhead", spec := "framesAhead", unfollowed := true, recurses := true, apart := false, narrowed := true }
def FramesAheadUptoSaid : Prop := framesAheadUptoRow.holds Try.pinned (OpenSpec.upto framesAheadSpec)

/-- 'arborlaw04.FramesPieces', WHERE WHAT IT READS IS OF BULK AT MOST 1048576: true; the input reads as it did. -/
def framesPiecesUptoRow : OpenClaim := { program := "ytgcglnohpmpnkaa", sum := "7124bafbf78e85cd85389fecedaaa0c91cc2e8c06b2da05b14bc845ec7555884", func := "arbor/arborlaw04.FramesPieces", spec := "framesPieces", unfollowed := true, recurses := true, apart := false, narrowed := true }
def FramesPiecesUptoSaid : Prop := framesPiecesUptoRow.holds Try.pinned (OpenSpec.upto framesPiecesSpec)

end Rows
end Go.Proofs.Ytgcglnohpmpnkaa
