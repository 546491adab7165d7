/- Calls that are known, 5. -/
import Derived.Test.YtjipcihcldngbaaGreatDoorProg
import Derived.Test.YtjipcihcldngbaaGreatDoorKeys
import Derived.KernelRfl
namespace Go.Proofs.YtjipcihcldngbaaGreatDoor.replicaNils
open Go Go.Sh
set_option maxRecDepth 1000000

def c5 : Cut where
  f := 178
  args := [.slice (some ⟨1041, 0, none⟩) 58 CAPX]
  nxt := 1043
  pre := [(1041, .row [.int .u8 0, .int .u8 0, .int .u8 0, .int .u8 0, .int .u8 0, .int .u8 0, .int .u8 0, .int .u8 1, .int .u8 0, .int .u8 0, .int .u8 0, .int .u8 0, .int .u8 0, .int .u8 0, .int .u8 0, .int .u8 0, .int .u8 0, .int .u8 0, .int .u8 0, .int .u8 2, .int .u8 0, .int .u8 0, .int .u8 0, .int .u8 0, .int .u8 0, .int .u8 0, .int .u8 0, .int .u8 0, .int .u8 0, .int .u8 0, .int .u8 0, .int .u8 1, .int .u8 0, .int .u8 0, .int .u8 0, .int .u8 2, .int .u8 47, .int .u8 97, .int .u8 0, .int .u8 0, .int .u8 0, .int .u8 0, .int .u8 0, .int .u8 0, .int .u8 0, .int .u8 0, .int .u8 0, .int .u8 0, .int .u8 0, .int .u8 0, .int .u8 0, .int .u8 0, .int .u8 0, .int .u8 0, .int .u8 0, .int .u8 0, .int .u8 0, .int .u8 1] 5 1)]
  e := .ret (.int .u32 3440975831)
  nxt' := 1043
  post := [(1041, .row [.int .u8 0, .int .u8 0, .int .u8 0, .int .u8 0, .int .u8 0, .int .u8 0, .int .u8 0, .int .u8 1, .int .u8 0, .int .u8 0, .int .u8 0, .int .u8 0, .int .u8 0, .int .u8 0, .int .u8 0, .int .u8 0, .int .u8 0, .int .u8 0, .int .u8 0, .int .u8 2, .int .u8 0, .int .u8 0, .int .u8 0, .int .u8 0, .int .u8 0, .int .u8 0, .int .u8 0, .int .u8 0, .int .u8 0, .int .u8 0, .int .u8 0, .int .u8 1, .int .u8 0, .int .u8 0, .int .u8 0, .int .u8 2, .int .u8 47, .int .u8 97, .int .u8 0, .int .u8 0, .int .u8 0, .int .u8 0, .int .u8 0, .int .u8 0, .int .u8 0, .int .u8 0, .int .u8 0, .int .u8 0, .int .u8 0, .int .u8 0, .int .u8 0, .int .u8 0, .int .u8 0, .int .u8 0, .int .u8 0, .int .u8 0, .int .u8 0, .int .u8 1] 5 1)]
theorem k5 : cutChk ((evK Tryz.prog kn [] 100000).call c5.f c5.args none ⟨ofPairs c5.pre, c5.nxt⟩) c5 = true := by kernel_rfl
theorem g5 : CutGood Tryz.prog Tryz.prog.globals.size c5 := cut_stepK (by kernel_rfl) kn_ok cuts_nil 100000 k5

end Go.Proofs.YtjipcihcldngbaaGreatDoor.replicaNils
