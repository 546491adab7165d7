/- Calls that are known, 7. -/
import Derived.Test.YtjipcihcldngbaaGreatDoorProg
import Derived.Test.YtjipcihcldngbaaGreatDoorKeys
import Derived.KernelRfl
import Derived.Test.YtjipcihcldngbaaGreatDoorMk3
import Derived.Test.YtjipcihcldngbaaGreatDoorMk4
import Derived.Test.YtjipcihcldngbaaGreatDoorMk5
import Derived.Test.YtjipcihcldngbaaGreatDoorMk6
namespace Go.Proofs.YtjipcihcldngbaaGreatDoor.replicaNils
open Go Go.Sh
set_option maxRecDepth 1000000

def c7 : Cut where
  f := 23
  args := []
  nxt := 21
  pre := []
  e := .ret (.bool true)
  nxt' := 1544
  post := []
theorem k7 : cutChk ((evK Tryz.prog kn [c3, c4, c5, c6] 100000).call c7.f c7.args none ⟨ofPairs c7.pre, c7.nxt⟩) c7 = true := by kernel_rfl
theorem g7 : CutGood Tryz.prog Tryz.prog.globals.size c7 := cut_stepK (by kernel_rfl) kn_ok (cuts_cons g3 (cuts_cons g4 (cuts_cons g5 (cuts_cons g6 cuts_nil)))) 100000 k7

end Go.Proofs.YtjipcihcldngbaaGreatDoor.replicaNils
