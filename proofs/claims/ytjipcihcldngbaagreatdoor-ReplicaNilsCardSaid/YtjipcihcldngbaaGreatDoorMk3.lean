/- Calls that are known, 3. -/
import Derived.Test.YtjipcihcldngbaaGreatDoorProg
import Derived.Test.YtjipcihcldngbaaGreatDoorKeys
import Derived.KernelRfl
import Derived.Test.YtjipcihcldngbaaGreatDoorMk0
import Derived.Test.YtjipcihcldngbaaGreatDoorMk1
import Derived.Test.YtjipcihcldngbaaGreatDoorMk2
namespace Go.Proofs.YtjipcihcldngbaaGreatDoor.replicaNils
open Go Go.Sh
set_option maxRecDepth 1000000

def c3 : Cut where
  f := 26
  args := [.agg #[.int .i64 0, .slice none 0 0, .slice (some ⟨117, 0, none⟩) 1 CAPX]]
  nxt := 119
  pre := [(115, .row [.int .i32 31, .string ⟨#[119, 111, 114, 108, 100]⟩, .string ⟨#[97, 110, 121, 111, 110, 101]⟩] 245 3), (117, .row [.string ⟨#[47]⟩, .slice none 0 0, .slice (some ⟨115, 0, none⟩) 1 CAPX, .int .i64 0, .int .i64 0, .int .i64 0, .int .i64 0, .int .i64 0, .int .i64 0, .int .i64 0, .int .i64 0, .int .i32 0, .int .i32 0, .int .i32 0, .bool false, .int .i64 0, .int .i64 0] 125 17)]
  e := .ret (.tuple #[.slice (some ⟨744, 0, none⟩) 189 CAPX, .int .i64 0])
  nxt' := 745
  post := [(115, .row [.int .i32 31, .string ⟨#[119, 111, 114, 108, 100]⟩, .string ⟨#[97, 110, 121, 111, 110, 101]⟩] 245 3), (117, .row [.string ⟨#[47]⟩, .slice none 0 0, .slice (some ⟨115, 0, none⟩) 1 CAPX, .int .i64 0, .int .i64 0, .int .i64 0, .int .i64 0, .int .i64 0, .int .i64 0, .int .i64 0, .int .i64 0, .int .i32 0, .int .i32 0, .int .i32 0, .bool false, .int .i64 0, .int .i64 0] 125 17), (744, .row [.int .u8 0, .int .u8 0, .int .u8 0, .int .u8 44, .int .u8 177, .int .u8 204, .int .u8 169, .int .u8 61, .int .u8 65, .int .u8 82, .int .u8 66, .int .u8 79, .int .u8 82, .int .u8 83, .int .u8 78, .int .u8 80, .int .u8 0, .int .u8 0, .int .u8 0, .int .u8 1, .int .u8 0, .int .u8 0, .int .u8 0, .int .u8 0, .int .u8 0, .int .u8 0, .int .u8 0, .int .u8 0, .int .u8 0, .int .u8 0, .int .u8 0, .int .u8 0, .int .u8 0, .int .u8 0, .int .u8 0, .int .u8 0, .int .u8 0, .int .u8 0, .int .u8 0, .int .u8 0, .int .u8 0, .int .u8 0, .int .u8 0, .int .u8 1, .int .u8 146, .int .u8 100, .int .u8 251, .int .u8 99, .int .u8 238, .int .u8 99, .int .u8 245, .int .u8 34, .int .u8 0, .int .u8 0, .int .u8 0, .int .u8 129, .int .u8 111, .int .u8 8, .int .u8 47, .int .u8 51, .int .u8 0, .int .u8 0, .int .u8 0, .int .u8 1, .int .u8 47, .int .u8 0, .int .u8 0, .int .u8 0, .int .u8 0, .int .u8 0, .int .u8 0, .int .u8 0, .int .u8 1, .int .u8 0, .int .u8 0, .int .u8 0, .int .u8 31, .int .u8 0, .int .u8 0, .int .u8 0, .int .u8 5, .int .u8 119, .int .u8 111, .int .u8 114, .int .u8 108, .int .u8 100, .int .u8 0, .int .u8 0, .int .u8 0, .int .u8 6, .int .u8 97, .int .u8 110, .int .u8 121, .int .u8 111, .int .u8 110, .int .u8 101, .int .u8 0, .int .u8 0, .int .u8 0, .int .u8 0, .int .u8 0, .int .u8 0, .int .u8 0, .int .u8 0, .int .u8 0, .int .u8 0, .int .u8 0, .int .u8 0, .int .u8 0, .int .u8 0, .int .u8 0, .int .u8 0, .int .u8 0, .int .u8 0, .int .u8 0, .int .u8 0, .int .u8 0, .int .u8 0, .int .u8 0, .int .u8 0, .int .u8 0, .int .u8 0, .int .u8 0, .int .u8 0, .int .u8 0, .int .u8 0, .int .u8 0, .int .u8 0, .int .u8 0, .int .u8 0, .int .u8 0, .int .u8 0, .int .u8 0, .int .u8 0, .int .u8 0, .int .u8 0, .int .u8 0, .int .u8 0, .int .u8 0, .int .u8 0, .int .u8 0, .int .u8 0, .int .u8 0, .int .u8 0, .int .u8 0, .int .u8 0, .int .u8 0, .int .u8 0, .int .u8 0, .int .u8 0, .int .u8 0, .int .u8 0, .int .u8 0, .int .u8 0, .int .u8 0, .int .u8 0, .int .u8 0, .int .u8 0, .int .u8 0, .int .u8 0, .int .u8 0, .int .u8 0, .int .u8 0, .int .u8 0, .int .u8 0, .int .u8 0, .int .u8 0, .int .u8 0, .int .u8 0, .int .u8 0, .int .u8 0, .int .u8 0, .int .u8 0, .int .u8 0, .int .u8 0, .int .u8 0, .int .u8 0, .int .u8 0, .int .u8 0, .int .u8 0, .int .u8 0, .int .u8 0, .int .u8 0, .int .u8 0, .int .u8 0, .int .u8 0, .int .u8 0, .int .u8 0, .int .u8 0] 5 1)]
theorem k3 : cutChk ((evK Tryz.prog kn [c0, c1, c2] 100000).call c3.f c3.args none ⟨ofPairs c3.pre, c3.nxt⟩) c3 = true := by kernel_rfl
theorem g3 : CutGood Tryz.prog Tryz.prog.globals.size c3 := cut_stepK (by kernel_rfl) kn_ok (cuts_cons g0 (cuts_cons g1 (cuts_cons g2 cuts_nil))) 100000 k3

end Go.Proofs.YtjipcihcldngbaaGreatDoor.replicaNils
