/- CheckNils: the run. -/
import Derived.Test.YtiiiofnakgpkdaaGreatDoorProg
import Derived.Test.YtiiiofnakgpkdaaGreatDoorShAD
import Derived.KernelRfl
namespace Go.Proofs.YtiiiofnakgpkdaaGreatDoor.checkNils
open Go.Sh

set_option maxRecDepth 1000000 in
theorem runs : gives Tryz.prog 100000 3 (Tryz.f3.params.toList.map (anyOf Tryz.prog)) (.bool true) = true := by kernel_rfl
end Go.Proofs.YtiiiofnakgpkdaaGreatDoor.checkNils
