/- Calls that are known, 1. -/
import Derived.Test.YtjipcihcldngbaaGreatDoorProg
import Derived.Test.YtjipcihcldngbaaGreatDoorKeys
import Derived.KernelRfl
namespace Go.Proofs.YtjipcihcldngbaaGreatDoor.replicaNils
open Go Go.Sh
set_option maxRecDepth 1000000

def c1 : Cut where
  f := 178
  args := [.slice (some ⟨472, 0, none⟩) 44 CAPX]
  nxt := 730
  pre := [(472, .row [.int .u8 65, .int .u8 82, .int .u8 66, .int .u8 79, .int .u8 82, .int .u8 83, .int .u8 78, .int .u8 80, .int .u8 0, .int .u8 0, .int .u8 0, .int .u8 1, .int .u8 0, .int .u8 0, .int .u8 0, .int .u8 0, .int .u8 0, .int .u8 0, .int .u8 0, .int .u8 0, .int .u8 0, .int .u8 0, .int .u8 0, .int .u8 0, .int .u8 0, .int .u8 0, .int .u8 0, .int .u8 0, .int .u8 0, .int .u8 0, .int .u8 0, .int .u8 0, .int .u8 0, .int .u8 0, .int .u8 0, .int .u8 1, .int .u8 146, .int .u8 100, .int .u8 251, .int .u8 99, .int .u8 238, .int .u8 99, .int .u8 245, .int .u8 34] 5 1)]
  e := .ret (.int .u32 2982979901)
  nxt' := 730
  post := [(472, .row [.int .u8 65, .int .u8 82, .int .u8 66, .int .u8 79, .int .u8 82, .int .u8 83, .int .u8 78, .int .u8 80, .int .u8 0, .int .u8 0, .int .u8 0, .int .u8 1, .int .u8 0, .int .u8 0, .int .u8 0, .int .u8 0, .int .u8 0, .int .u8 0, .int .u8 0, .int .u8 0, .int .u8 0, .int .u8 0, .int .u8 0, .int .u8 0, .int .u8 0, .int .u8 0, .int .u8 0, .int .u8 0, .int .u8 0, .int .u8 0, .int .u8 0, .int .u8 0, .int .u8 0, .int .u8 0, .int .u8 0, .int .u8 1, .int .u8 146, .int .u8 100, .int .u8 251, .int .u8 99, .int .u8 238, .int .u8 99, .int .u8 245, .int .u8 34] 5 1)]
theorem k1 : cutChk ((evK Tryz.prog kn [] 100000).call c1.f c1.args none ⟨ofPairs c1.pre, c1.nxt⟩) c1 = true := by kernel_rfl
theorem g1 : CutGood Tryz.prog Tryz.prog.globals.size c1 := cut_stepK (by kernel_rfl) kn_ok cuts_nil 100000 k1

end Go.Proofs.YtjipcihcldngbaaGreatDoor.replicaNils
