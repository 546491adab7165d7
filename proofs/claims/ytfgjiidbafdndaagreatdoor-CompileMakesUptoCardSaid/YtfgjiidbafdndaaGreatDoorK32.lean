/- CompileMakes: the run of live(). -/
import Derived.Test.YtfgjiidbafdndaaGreatDoorProg
import Derived.Test.YtfgjiidbafdndaaGreatDoorK31
import Derived.KernelRfl
namespace Go.Proofs.YtfgjiidbafdndaaGreatDoor
open Go.Sh Go.RowKit
set_option maxRecDepth 100000
theorem live_runs : gives Tryz.prog 100000 11 [] (.bool true) = true := by kernel_rfl
theorem mixed : Tryz.prog.follows .mixedOrders = true := by kernel_rfl
theorem live_any (W : World) : Calls Tryz.prog 11 #[] W fun e W' => e = .returned (.bool true) ∧ Below W.heap.size W W' := gives_calls mixed live_runs (LR.nil _) W
end Go.Proofs.YtfgjiidbafdndaaGreatDoor
