/- The run, with the calls that are known. -/
import Derived.Test.YtjipcihcldngbaaGreatDoorProg
import Derived.Test.YtjipcihcldngbaaGreatDoorKeys
import Derived.KernelRfl
import Derived.Test.YtjipcihcldngbaaGreatDoorMk7
namespace Go.Proofs.YtjipcihcldngbaaGreatDoor.replicaNils
open Go Go.Sh
set_option maxRecDepth 1000000
theorem known : ∀ c ∈ [c7], CutGood Tryz.prog Tryz.prog.globals.size c := (cuts_cons g7 cuts_nil)
theorem runs : givesK Tryz.prog kn [c7] 100000 3 (Tryz.f3.params.toList.map (anyOf Tryz.prog)) (.bool true) = true := by kernel_rfl
end Go.Proofs.YtjipcihcldngbaaGreatDoor.replicaNils
