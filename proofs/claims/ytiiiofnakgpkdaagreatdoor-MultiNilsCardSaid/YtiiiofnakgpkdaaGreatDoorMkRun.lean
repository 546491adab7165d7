/- The run, with the calls that are known. -/
import Derived.Test.YtiiiofnakgpkdaaGreatDoorProg
import Derived.Test.YtiiiofnakgpkdaaGreatDoorShAH
import Derived.KernelRfl
import Derived.Test.YtiiiofnakgpkdaaGreatDoorMk2
import Derived.Test.YtiiiofnakgpkdaaGreatDoorMk4
namespace Go.Proofs.YtiiiofnakgpkdaaGreatDoor.multiNils
open Go Go.Sh
set_option maxRecDepth 1000000
theorem known : ∀ c ∈ [c2, c4], CutGood Tryz.prog Tryz.prog.globals.size c := (cuts_cons g2 (cuts_cons g4 cuts_nil))
theorem runs : givesO Tryz.prog [c2, c4] 100000 4 (Tryz.f4.params.toList.map (anyOf Tryz.prog)) (.bool true) = true := by kernel_rfl
end Go.Proofs.YtiiiofnakgpkdaaGreatDoor.multiNils
