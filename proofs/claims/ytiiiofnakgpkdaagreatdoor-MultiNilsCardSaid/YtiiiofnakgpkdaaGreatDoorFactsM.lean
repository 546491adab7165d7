/- The closed facts of the row of MultiNils. -/
import Derived.Test.YtiiiofnakgpkdaaGreatDoorFacts
namespace Go.Proofs.YtiiiofnakgpkdaaGreatDoor
set_option maxRecDepth 100000
theorem fact4_inPlace : (Rows.multiNilsRow.inPlace == Tryz.prog.inPlace 4) = true := by kernel_rfl
theorem fact4_unfollowed : (Rows.multiNilsRow.unfollowed == Tryz.prog.unfollowed 4) = true := by kernel_rfl
theorem fact4_recurses : (Rows.multiNilsRow.recurses == Tryz.prog.recurses 4) = true := by kernel_rfl
theorem fact4_named : (Rows.multiNilsRow.named == Tryz.prog.varsNamed 4) = true := by kernel_rfl
end Go.Proofs.YtiiiofnakgpkdaaGreatDoor
