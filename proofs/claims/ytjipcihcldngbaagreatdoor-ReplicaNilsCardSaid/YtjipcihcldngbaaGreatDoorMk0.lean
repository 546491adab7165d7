/- Calls that are known, 0. -/
import Derived.Test.YtjipcihcldngbaaGreatDoorProg
import Derived.Test.YtjipcihcldngbaaGreatDoorKeys
import Derived.KernelRfl
namespace Go.Proofs.YtjipcihcldngbaaGreatDoor.replicaNils
open Go Go.Sh
set_option maxRecDepth 1000000

def c0 : Cut where
  f := 133
  args := [.agg #[.string ⟨#[47]⟩, .slice none 0 0, .slice (some ⟨115, 0, none⟩) 1 CAPX, .int .i64 0, .int .i64 0, .int .i64 0, .int .i64 0, .int .i64 0, .int .i64 0, .int .i64 0, .int .i64 0, .int .i32 0, .int .i32 0, .int .i32 0, .bool false, .int .i64 0, .int .i64 0]]
  nxt := 202
  pre := [(115, .row [.int .i32 31, .string ⟨#[119, 111, 114, 108, 100]⟩, .string ⟨#[97, 110, 121, 111, 110, 101]⟩] 245 3)]
  e := .ret (.int .u64 10548832633828406562)
  nxt' := 455
  post := [(115, .row [.int .i32 31, .string ⟨#[119, 111, 114, 108, 100]⟩, .string ⟨#[97, 110, 121, 111, 110, 101]⟩] 245 3)]
theorem k0 : cutChk ((evK Tryz.prog kn [] 100000).call c0.f c0.args none ⟨ofPairs c0.pre, c0.nxt⟩) c0 = true := by kernel_rfl
theorem g0 : CutGood Tryz.prog Tryz.prog.globals.size c0 := cut_stepK (by kernel_rfl) kn_ok cuts_nil 100000 k0

end Go.Proofs.YtjipcihcldngbaaGreatDoor.replicaNils
