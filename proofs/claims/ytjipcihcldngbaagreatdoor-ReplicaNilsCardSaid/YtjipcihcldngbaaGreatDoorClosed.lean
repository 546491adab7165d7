/- The closed facts of the card, one by one. -/
import Derived.Test.YtjipcihcldngbaaGreatDoorRows
import Derived.Test.YtjipcihcldngbaaGreatDoorCards
import Derived.SevenTiedAt
namespace Go.Proofs.YtjipcihcldngbaaGreatDoor.replicaNils
set_option maxRecDepth 100000
theorem wf : OpenClaim.wfByText (OpenSpec.ofChange Rows.replicaNilsSpec) Rows.replicaNilsRow = true := by kernel_rfl
theorem mainIs : Tryz.pinned.checked.prog.mainIs = some (true, ("81a16d13950b7ec4de831dbd3c9e881df7c10a459bc3487685135bdab1caaa32" : String).toList) := by kernel_rfl
theorem looks : true = Tryz.pinned.checked.prog.looks [] := by kernel_rfl
theorem standIns : ([43].all fun u => !Tryz.prog.wantsStandIn u) = true := by kernel_rfl
theorem goesBy : false = Rows.replicaNilsRow.goesBy Tryz.pinned.checked.prog := by kernel_rfl
theorem funcIs : Tryz.pinned.checked.prog.funcNamed Rows.replicaNilsRow.func = some 3 := by kernel_rfl
end Go.Proofs.YtjipcihcldngbaaGreatDoor.replicaNils
